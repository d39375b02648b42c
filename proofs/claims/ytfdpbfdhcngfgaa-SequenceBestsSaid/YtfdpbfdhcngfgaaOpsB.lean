/- Each operation does what the run says: calls by contract. -/
import Derived.Test.YtfdpbfdhcngfgaaOpsA
namespace Go.Proofs.Ytfdpbfdhcngfgaa
open Go.RowKit
set_option linter.unusedVariables false
set_option linter.unusedSimpArgs false
def leafAV1 (r : AV) (i : Nat) : Sh → AV
  | .agg _ => r.cel i
  | _ => r
def leafAV (r : AV) (j i : Nat) : Sh → AV
  | .tup vs => leafAV1 (r.prj j) i (vs.getD j .sc)
  | sh => leafAV1 r i sh
theorem leafB_mem {id id' st : Nat} {r : AV} {sh : Sh} {db : DB} : (id, db) ∈ leafB id' st r sh ↔ ∃ e s f, sh = .row e s f ∧ id = id' ∧ db = .row e s st r := by
  cases sh with
  | row e s f =>
    simp only [leafB, List.mem_singleton, Prod.mk.injEq]
    constructor
    · rintro ⟨h1, h2⟩; exact ⟨e, s, f, rfl, h1, h2⟩
    · rintro ⟨e', s', f', h0, h1, h2⟩
      injection h0 with q1 q2 q3
      subst q1 q2
      exact ⟨h1, h2⟩
  | _ => simp [leafB]
theorem bs1_mem {st j : Nat} {r : AV} {sh : Sh} {id : Nat} {db : DB} (hs : sh.small1 = true) : (id, db) ∈ Sh.bs1 st j r sh ↔ ∃ i e s f, i < 8 ∧ leafSh1 i sh = .row e s f ∧ id = idOf st j i ∧ db = .row e s st (leafAV1 r i sh) := by
  cases sh with
  | agg cs =>
    have hl : cs.length ≤ 8 := by simpa [Sh.small1] using hs
    simp only [Sh.bs1, List.mem_flatMap, List.mem_range, leafB_mem, leafSh1, leafAV1]
    constructor
    · rintro ⟨i, hi, e, s, f, h1, h2, h3⟩
      exact ⟨i, e, s, f, by omega, h1, h2, h3⟩
    · rintro ⟨i, e, s, f, hi, h1, h2, h3⟩
      refine ⟨i, ?_, e, s, f, h1, h2, h3⟩
      rcases Nat.lt_or_ge i cs.length with q | q
      · exact q
      · rw [List.getD_eq_getElem?_getD, List.getElem?_eq_none q] at h1; cases h1
  | row e s f =>
    simp only [Sh.bs1, leafB_mem, leafSh1, leafAV1]
    constructor
    · rintro ⟨e', s', f', h1, h2, h3⟩
      exact ⟨0, e', s', f', by omega, by simpa using h1, h2, h3⟩
    · rintro ⟨i, e', s', f', hi, h1, h2, h3⟩
      by_cases hi0 : i = 0
      · subst hi0; exact ⟨e', s', f', by simpa using h1, h2, h3⟩
      · rw [if_neg hi0] at h1; cases h1
  | tup vs => cases hs
  | sc =>
    simp only [Sh.bs1, leafB_mem, leafSh1]
    constructor
    · rintro ⟨e', s', f', h1, _⟩; cases h1
    · rintro ⟨i, e', s', f', hi, h1, _⟩
      split at h1 <;> cases h1
  | p =>
    simp only [Sh.bs1, leafB_mem, leafSh1]
    constructor
    · rintro ⟨e', s', f', h1, _⟩; cases h1
    · rintro ⟨i, e', s', f', hi, h1, _⟩
      split at h1 <;> cases h1
theorem small1_of {vs : List Sh} (h : vs.all Sh.small1 = true) (j : Nat) : (vs.getD j .sc).small1 = true := by
  rcases Nat.lt_or_ge j vs.length with q | q
  · rw [List.getD_eq_getElem?_getD, List.getElem?_eq_getElem q]
    exact List.all_eq_true.1 h _ (List.getElem_mem q)
  · rw [List.getD_eq_getElem?_getD, List.getElem?_eq_none q]; rfl
theorem leaf_lt {vs : List Sh} {j i e s : Nat} {f : Bool} (h : leafSh1 i (vs.getD j .sc) = .row e s f) : j < vs.length := by
  rcases Nat.lt_or_ge j vs.length with q | q
  · exact q
  · rw [List.getD_eq_getElem?_getD, List.getElem?_eq_none q] at h
    simp only [Option.getD_none, leafSh1] at h
    split at h <;> cases h
theorem bs_mem {st : Nat} {r : AV} {sh : Sh} {id : Nat} {db : DB} (hs : sh.small = true) : (id, db) ∈ Sh.bs st r sh ↔ ∃ j i e s f, j < 8 ∧ i < 8 ∧ leafSh j i sh = .row e s f ∧ id = idOf st j i ∧ db = .row e s st (leafAV r j i sh) := by
  have hone : ∀ sh : Sh, sh.small1 = true → (Sh.bs st r sh = Sh.bs1 st 0 r sh) → (∀ j i, leafSh j i sh = if j = 0 then leafSh1 i sh else .sc) → (∀ j i, leafAV r j i sh = leafAV1 r i sh) → ((id, db) ∈ Sh.bs st r sh ↔ ∃ j i e s f, j < 8 ∧ i < 8 ∧ leafSh j i sh = .row e s f ∧ id = idOf st j i ∧ db = .row e s st (leafAV r j i sh)) := by
    intro sh h1 h2 h3 h4
    rw [h2, bs1_mem h1]
    constructor
    · rintro ⟨i, e, s, f, q1, q2, q3, q4⟩
      exact ⟨0, i, e, s, f, by omega, q1, by rw [h3, if_pos rfl]; exact q2, q3, by rw [h4]; exact q4⟩
    · rintro ⟨j, i, e, s, f, q0, q1, q2, q3, q4⟩
      rw [h3] at q2
      by_cases hj : j = 0
      · subst hj
        rw [if_pos rfl] at q2
        exact ⟨i, e, s, f, q1, q2, q3, by rw [h4] at q4; exact q4⟩
      · rw [if_neg hj] at q2; cases q2
  cases sh with
  | tup vs =>
    have hs' : vs.length ≤ 8 ∧ vs.all Sh.small1 = true := by
      have : (decide (vs.length ≤ 8) && vs.all Sh.small1) = true := hs
      rw [Bool.and_eq_true] at this
      exact ⟨of_decide_eq_true this.1, this.2⟩
    simp only [Sh.bs, List.mem_flatMap, List.mem_range]
    constructor
    · rintro ⟨j, hj, hm⟩
      obtain ⟨i, e, s, f, q1, q2, q3, q4⟩ := (bs1_mem (small1_of hs'.2 j)).1 hm
      exact ⟨j, i, e, s, f, by omega, q1, q2, q3, q4⟩
    · rintro ⟨j, i, e, s, f, q0, q1, q2, q3, q4⟩
      exact ⟨j, leaf_lt q2, (bs1_mem (small1_of hs'.2 j)).2 ⟨i, e, s, f, q1, q2, q3, q4⟩⟩
  | agg cs => exact hone (.agg cs) hs rfl (fun _ _ => rfl) (fun _ _ => rfl)
  | row e s f => exact hone (.row e s f) hs rfl (fun _ _ => rfl) (fun _ _ => rfl)
  | sc => exact hone .sc hs rfl (fun _ _ => rfl) (fun _ _ => rfl)
  | p => exact hone .p hs rfl (fun _ _ => rfl) (fun _ _ => rfl)
theorem small_leaf {sh : Sh} (hs : sh.small = true) {j i e s : Nat} {f : Bool} (h : leafSh j i sh = .row e s f) : j < 8 ∧ i < 8 := by
  have h1 : ∀ sh : Sh, sh.small1 = true → leafSh1 i sh = .row e s f → i < 8 := by
    intro sh h1 h2
    cases sh with
    | agg cs =>
      have hl : cs.length ≤ 8 := by simpa [Sh.small1] using h1
      rcases Nat.lt_or_ge i cs.length with q | q
      · omega
      · simp only [leafSh1] at h2
        rw [List.getD_eq_getElem?_getD, List.getElem?_eq_none q] at h2; cases h2
    | _ =>
      simp only [leafSh1] at h2
      split at h2
      · omega
      · cases h2
  have h2 : ∀ sh : Sh, sh.small1 = true → (if j = 0 then leafSh1 i sh else .sc) = .row e s f → j < 8 ∧ i < 8 := by
    intro sh q1 q2
    split at q2
    · exact ⟨by omega, h1 sh q1 q2⟩
    · cases q2
  cases sh with
  | tup vs =>
    have hs' : vs.length ≤ 8 ∧ vs.all Sh.small1 = true := by
      have : (decide (vs.length ≤ 8) && vs.all Sh.small1) = true := hs
      rw [Bool.and_eq_true] at this
      exact ⟨of_decide_eq_true this.1, this.2⟩
    have := leaf_lt (show leafSh1 i (vs.getD j .sc) = .row e s f from h)
    exact ⟨by omega, h1 _ (small1_of hs'.2 j) h⟩
  | agg cs => exact h2 (.agg cs) hs h
  | row a b c => exact h2 (.row a b c) hs h
  | sc => exact h2 .sc hs h
  | p => exact h2 .p hs h
section
variable {w' : World} {okn okn' : Nat → Prop} {B : Nat} {r : AV} {v : Value} {sh : Sh}
theorem RS1.leaf (h : RS1 w' okn B r v sh) {i e s : Nat} {f : Bool} (hl : leafSh1 i sh = .row e s f) : RRow w' B e s (if f then noBlock else okn) (leafAV1 r i sh) (leafVal1 v i sh) := by
  cases sh with
  | agg cs =>
    obtain ⟨vs, rfl, h1, h2, h3⟩ := h
    have hi : i < cs.length := by
      rcases Nat.lt_or_ge i cs.length with q | q
      · exact q
      · simp only [leafSh1] at hl
        rw [List.getD_eq_getElem?_getD, List.getElem?_eq_none q] at hl; cases hl
    have := (h3 i hi).2
    have hl' : cs.getD i .sc = .row e s f := hl
    rw [hl'] at this
    exact this
  | row e' s' f' =>
    simp only [leafSh1] at hl
    split at hl
    · injection hl with q1 q2 q3
      subst q1 q2 q3
      exact h
    · cases hl
  | tup vs => simp only [leafSh1] at hl; split at hl <;> cases hl
  | sc => simp only [leafSh1] at hl; split at hl <;> cases hl
  | p => simp only [leafSh1] at hl; split at hl <;> cases hl
theorem RS2.leaf (h : RS2 w' okn B r v sh) {j i e s : Nat} {f : Bool} (hl : leafSh j i sh = .row e s f) : RRow w' B e s (if f then noBlock else okn) (leafAV r j i sh) (leafVal v j i sh) := by
  have h1 : ∀ sh : Sh, RS1 w' okn B r v sh → (if j = 0 then leafSh1 i sh else .sc) = .row e s f → RRow w' B e s (if f then noBlock else okn) (leafAV1 r i sh) (leafVal1 v i sh) := by
    intro sh q1 q2
    split at q2
    · exact q1.leaf q2
    · cases q2
  cases sh with
  | tup vs =>
    obtain ⟨us, rfl, h1, h2, h3⟩ := h
    exact (h3 j (leaf_lt hl)).leaf hl
  | agg cs => exact h1 (.agg cs) h hl
  | row a b c => exact h1 (.row a b c) h hl
  | sc => exact h1 .sc h hl
  | p => exact h1 .p h hl
theorem RS0.flat (h : RS0 w' okn B r v sh) (hf : sh.flat0 = true) : RS0 w' okn' B r v sh := by
  cases sh with
  | row e s f =>
    have : f = true := hf
    subst this
    exact h
  | p => cases hf
  | sc => exact h
  | agg cs => exact h
  | tup vs => exact h
theorem RS1.flat (h : RS1 w' okn B r v sh) (hf : sh.flat1 = true) : RS1 w' okn' B r v sh := by
  cases sh with
  | agg cs =>
    obtain ⟨vs, h0, h1, h2, h3⟩ := h
    refine ⟨vs, h0, h1, h2, fun i hi => ⟨(h3 i hi).1, (h3 i hi).2.flat ?_⟩⟩
    rw [List.getD_eq_getElem?_getD, List.getElem?_eq_getElem hi]
    exact List.all_eq_true.1 hf _ (List.getElem_mem hi)
  | row e s f => exact RS0.flat (okn := okn) (okn' := okn') (B := B) (sh := .row e s f) h hf
  | sc => exact RS0.flat (okn := okn) (okn' := okn') (B := B) (sh := .sc) h hf
  | p => cases hf
  | tup vs => cases hf
theorem RS2.flat (h : RS2 w' okn B r v sh) (hf : sh.flat = true) : RS2 w' okn' B r v sh := by
  cases sh with
  | tup vs =>
    obtain ⟨us, h0, h1, h2, h3⟩ := h
    refine ⟨us, h0, h1, h2, fun i hi => (h3 i hi).flat ?_⟩
    rw [List.getD_eq_getElem?_getD, List.getElem?_eq_getElem hi]
    exact List.all_eq_true.1 hf _ (List.getElem_mem hi)
  | agg cs => exact RS1.flat (okn := okn) (okn' := okn') (B := B) (sh := .agg cs) h hf
  | row e s f => exact RS1.flat (okn := okn) (okn' := okn') (B := B) (sh := .row e s f) h hf
  | sc => exact RS1.flat (okn := okn) (okn' := okn') (B := B) (sh := .sc) h hf
  | p => cases hf
end
section
variable {w' : World} {okn ok' : Nat → Prop} {B : Nat} {r : AV} {v : Value} {sh : Sh} {ρ' : Nat → Value} {blk' : Nat → DB} {isd' : Nat → Prop} {st : Nat}
theorem leafD_ok {id : Nat} (h : RS0 w' okn B r v sh) (hst : isd' st) (hok : ∀ g, okn g → g < w'.heap.size → ok' g) (hρ : isRow sh = true → ρ' id = v) : RD w' ok' ρ' blk' isd' (leafD id st r sh) v := by
  cases sh with
  | row e s f =>
    refine .row id st v hst ?_ fun _ => (hρ rfl).symm
    obtain ⟨A, n, c, rfl, _⟩ := RRow.form h
    rfl
  | p => exact .v _ _ (RV.mono h fun g hg hlt => ⟨hok g hg hlt, rfl⟩)
  | sc => exact .v _ _ (RV.mono h fun g hg hlt => hg.elim)
  | agg cs => exact .v _ _ (RV.mono h fun g hg hlt => hg.elim)
  | tup vs => exact .v _ _ (RV.mono h fun g hg hlt => hg.elim)
theorem de1_ok {j : Nat} (h : RS1 w' okn B r v sh) (hst : isd' st) (hok : ∀ g, okn g → g < w'.heap.size → ok' g) (hρ : ∀ i, isRow (leafSh1 i sh) = true → ρ' (idOf st j i) = leafVal1 v i sh) : RD w' ok' ρ' blk' isd' (Sh.de1 st j r sh) v := by
  cases sh with
  | agg cs =>
    obtain ⟨vs, rfl, h1, h2, h3⟩ := h
    refine .agg _ _ (by simp [h1]) (fun i hi => (h3 i (by simpa using hi)).1) (fun i hi => ?_)
    have hi' : i < cs.length := by simpa using hi
    have e : ((List.range cs.length).map fun i => leafD (idOf st j i) st (r.cel i) (cs.getD i .sc)).getD i .any = leafD (idOf st j i) st (r.cel i) (cs.getD i .sc) := by
      simp only [List.getD_eq_getElem?_getD, List.getElem?_map, List.getElem?_range hi', Option.map_some, Option.getD_some]
    rw [e]
    exact leafD_ok (h3 i hi').2 hst hok (fun q => hρ i q)
  | row e s f => exact leafD_ok (okn := okn) (B := B) (sh := .row e s f) h hst hok (fun q => hρ 0 q)
  | sc => exact leafD_ok (okn := okn) (B := B) (sh := .sc) h hst hok (fun q => hρ 0 q)
  | p => exact leafD_ok (okn := okn) (B := B) (sh := .p) h hst hok (fun q => hρ 0 q)
  | tup vs => exact leafD_ok (okn := okn) (B := B) (sh := .tup vs) h hst hok (fun q => hρ 0 q)
theorem de_ok (h : RS2 w' okn B r v sh) (hst : isd' st) (hok : ∀ g, okn g → g < w'.heap.size → ok' g) (hρ : ∀ j i, isRow (leafSh j i sh) = true → ρ' (idOf st j i) = leafVal v j i sh) : RD w' ok' ρ' blk' isd' (Sh.de st r sh) v := by
  cases sh with
  | tup vs =>
    obtain ⟨us, rfl, h1, h2, h3⟩ := h
    refine .tup _ _ (by simp [h1]) (fun j hj => ?_)
    have hj' : j < vs.length := by simpa using hj
    have e : ((List.range vs.length).map fun j => Sh.de1 st j (r.prj j) (vs.getD j .sc)).getD j .any = Sh.de1 st j (r.prj j) (vs.getD j .sc) := by
      simp only [List.getD_eq_getElem?_getD, List.getElem?_map, List.getElem?_range hj', Option.map_some, Option.getD_some]
    rw [e]
    exact de1_ok (h3 j hj') hst hok (fun i q => hρ j i q)
  | agg cs => exact de1_ok (okn := okn) (B := B) (sh := .agg cs) h hst hok (fun i q => hρ 0 i q)
  | row e s f => exact de1_ok (okn := okn) (B := B) (sh := .row e s f) h hst hok (fun i q => hρ 0 i q)
  | sc => exact de1_ok (okn := okn) (B := B) (sh := .sc) h hst hok (fun i q => hρ 0 i q)
  | p => exact de1_ok (okn := okn) (B := B) (sh := .p) h hst hok (fun i q => hρ 0 i q)
end
theorem RRow.base {w : World} {B B' e s : Nat} {okc : Nat → Prop} {r : AV} {v : Value} (h : RRow w B e s okc r v) (hB : B' ≤ B) : RRow w B' e s okc r v := by
  obtain ⟨L, xs, e1, hs, hL, ho, hone, hv⟩ := h
  refine ⟨L, xs, e1, hs, hL, ⟨ho.1, ?_⟩, hone, hv⟩
  rcases ho.2 with q | ⟨g, cap, cur, q1, q2, q3⟩
  · exact .inl q
  · exact .inr ⟨g, cap, cur, q1, by omega, q3⟩
section
variable {P : Program} {base : Nat} {w0 : World} {ok0 isd : Nat → Prop} {tm : List DE} {blk : Nat → DB} {ρ : Nat → Value} {a : Act} {w : World} {V : View} {st : Nat} {o : Oper} {Γ : FuncId → Option Ca}
/-- What a call gives back comes to lie in the state. -/
theorem HR.call (h : HR base w0 ok0 isd tm blk ρ a w) (hst : ∀ n, st ≤ n → n < st + 64 → ¬ isd n) {w' : World} (hb : Below w.heap.size w w') {okn : Nat → Prop} {r : AV} {v : Value} {sh : Sh} (hs : sh.small = true) (hR : RS2 w' okn w.heap.size r v sh) (hap : RowsApart v sh)
    (hok : ∀ g, okn g → (okF base ok0 blk ρ g ∧ g < w.heap.size) ∨ (w.heap.size ≤ g ∧ ¬ inRows v sh g)) (dst : Option Nat) (hdrn : w.drawn ≤ w'.drawn) :
    ∃ ρ', HR base w0 ok0 (NewI isd st) (setD tm dst (sh.de st r)) (updB blk (sh.bs st r)) ρ' (a.put dst v) w' := by
  have hid : ∀ j i, j < 8 → i < 8 → st ≤ idOf st j i ∧ idOf st j i < st + 64 ∧ (idOf st j i - st) / 8 = j ∧ (idOf st j i - st) % 8 = i := by
    intro j i hj hi
    unfold idOf
    omega
  let rowAt : Nat → Prop := fun b => st ≤ b ∧ b < st + 64 ∧ isRow (leafSh ((b - st) / 8) ((b - st) % 8) sh) = true
  have hdec : ∀ b, rowAt b → ∃ j i e s f, j < 8 ∧ i < 8 ∧ leafSh j i sh = .row e s f ∧ b = idOf st j i := by
    rintro b ⟨q1, q2, q3⟩
    cases hk : leafSh ((b - st) / 8) ((b - st) % 8) sh with
    | row e s f => exact ⟨(b - st) / 8, (b - st) % 8, e, s, f, by omega, by omega, hk, by unfold idOf; omega⟩
    | _ => rw [hk] at q3; cases q3
  have henc : ∀ j i e s f, leafSh j i sh = .row e s f → rowAt (idOf st j i) := by
    intro j i e s f hk
    obtain ⟨hj, hi⟩ := small_leaf hs hk
    obtain ⟨q1, q2, q3, q4⟩ := hid j i hj hi
    exact ⟨q1, q2, by rw [q3, q4, hk]; rfl⟩
  classical
  let ρ' : Nat → Value := fun b => if rowAt b then leafVal v ((b - st) / 8) ((b - st) % 8) sh else ρ b
  have hρrow : ∀ j i e s f, leafSh j i sh = .row e s f → ρ' (idOf st j i) = leafVal v j i sh := by
    intro j i e s f hk
    obtain ⟨hj, hi⟩ := small_leaf hs hk
    obtain ⟨_, _, q3, q4⟩ := hid j i hj hi
    show (if rowAt (idOf st j i) then _ else _) = _
    rw [if_pos (henc j i e s f hk), q3, q4]
  have hblk : ∀ b, ¬ rowAt b → updB blk (sh.bs st r) b = blk b := by
    intro b hb
    unfold updB
    cases hf : (sh.bs st r).find? (·.1 == b) with
    | none => rfl
    | some q =>
      obtain ⟨id, db⟩ := q
      have e1 : id = b := by simpa using List.find?_some hf
      obtain ⟨j, i, e, s, f, _, _, hk, e2, _⟩ := (bs_mem hs).1 (List.mem_of_find?_eq_some hf)
      exact absurd (e1 ▸ e2 ▸ henc j i e s f hk) hb
  have hblk2 : ∀ j i e s f, leafSh j i sh = .row e s f → updB blk (sh.bs st r) (idOf st j i) = .row e s st (leafAV r j i sh) := by
    intro j i e s f hk
    obtain ⟨hj, hi⟩ := small_leaf hs hk
    have hmem := (bs_mem (st := st) (r := r) hs).2 ⟨j, i, e, s, f, hj, hi, hk, rfl, rfl⟩
    unfold updB
    cases hf : (sh.bs st r).find? (·.1 == idOf st j i) with
    | none =>
      have := List.find?_eq_none.1 hf _ hmem
      simp at this
    | some q =>
      obtain ⟨id, db⟩ := q
      have e1 : id = idOf st j i := by simpa using List.find?_some hf
      obtain ⟨j', i', e', s', f', hj', hi', hk', e2, e3⟩ := (bs_mem hs).1 (List.mem_of_find?_eq_some hf)
      have h1 := hid j i hj hi
      have h2 := hid j' i' hj' hi'
      rw [← e2, e1] at h2
      obtain rfl : j' = j := h2.2.2.1.symm.trans h1.2.2.1
      obtain rfl : i' = i := h2.2.2.2.symm.trans h1.2.2.2
      rw [hk] at hk'
      injection hk' with k1 k2 k3
      subst k1 k2
      exact e3
  refine ⟨ρ', h.step rowAt hblk (fun b hc => ?_) (fun b t cs hc hk => ?_) (fun b n y hc hk => ?_) (fun n hn => .inl hn) (fun b hc => .inr ⟨hc.1, hc.2.1⟩) (fun b n hc hn hs' => ?_) hb.size (fun g hlt _ => hb.block g hlt) (fun b hc _ g hg => ?_) (fun b b' hc hc' _ _ hne g hg => ?_) hb.os hb.tape hb.output (fun H1 H5 b hc => ?_) (fun H1 t => ?_) ?_ ?_⟩
  · show (if rowAt b then _ else ρ b) = ρ b
    rw [if_neg hc]
  · rw [h.frs b (hst b hc.1 hc.2.1)] at hk; cases hk
  · rw [h.frs b (hst b hc.1 hc.2.1)] at hk; cases hk
  · obtain ⟨j, i, e, s, f, _, _, hk, rfl⟩ := hdec b hc
    rw [hblk2 j i e s f hk] at hs'
    have : st = n := by simpa [stampOf] using hs'
    exact absurd (this ▸ hn) (hst st (Nat.le_refl _) (by omega))
  · obtain ⟨j, i, e, s, f, _, _, hk, rfl⟩ := hdec b hc
    rw [hρrow j i e s f hk] at hg
    right
    have hrow := hR.leaf hk
    exact (hrow.lt (hrow.blkNo_eq ▸ hg)).1
  · obtain ⟨j, i, e, s, f, _, _, hk, rfl⟩ := hdec b hc
    obtain ⟨j', i', e', s', f', _, _, hk', rfl⟩ := hdec b' hc'
    rw [hρrow j i e s f hk] at hg
    rw [hρrow j' i' e' s' f' hk']
    have hr1 := hR.leaf hk
    have hr2 := hR.leaf hk'
    rw [← hr1.blkNo_eq] at hg
    rw [← hr2.blkNo_eq]
    refine hap j i j' i' (by rw [hk]; rfl) (by rw [hk']; rfl) ?_ g hg
    apply Classical.byContradiction
    intro hno
    have q1 : j = j' := Classical.byContradiction fun q => hno (.inl q)
    have q2 : i = i' := Classical.byContradiction fun q => hno (.inr q)
    exact hne (by rw [q1, q2])
  · have hok2 : ∀ g, okn g → g < w'.heap.size → okF base ok0 (updB blk (sh.bs st r)) ρ' g := by
      intro g hg hlt
      rcases hok g hg with ⟨q1, q2⟩ | ⟨q1, q2⟩
      · exact (H1 g q1 q2).1
      · refine ⟨fun hgb => absurd h.low (by omega), fun b hl e => ?_⟩
        by_cases hcb : rowAt b
        · obtain ⟨j, i, e', s, f, _, _, hk, rfl⟩ := hdec b hcb
          rw [hρrow j i e' s f hk] at e
          have hr := hR.leaf hk
          exact q2 ⟨j, i, by rw [hk]; rfl, hr.blkNo_eq.trans e⟩
        · rw [hblk b hcb] at hl
          have e2 : blkNo (ρ b) = some g := by
            have : ρ' b = ρ b := by show (if rowAt b then _ else ρ b) = ρ b; rw [if_neg hcb]
            rw [this] at e; exact e
          have := (h.live_lt hl e2).2
          omega
    obtain ⟨j, i, e, s, f, _, _, hk, rfl⟩ := hdec b hc
    rw [hblk2 j i e s f hk]
    refine ⟨.inr ⟨Nat.le_refl _, by omega⟩, ?_⟩
    rw [hρrow j i e s f hk]
    refine ((hR.leaf hk).base h.low).keep (fun _ _ => rfl) (fun g hg hlt => ⟨?_, rfl⟩)
    split at hg
    · exact hg.elim
    · exact hok2 g hg hlt
  · have hok2 : ∀ g, okn g → g < w'.heap.size → okF base ok0 (updB blk (sh.bs st r)) ρ' g := by
      intro g hg hlt
      rcases hok g hg with ⟨q1, q2⟩ | ⟨q1, q2⟩
      · exact (H1 g q1 q2).1
      · refine ⟨fun hgb => absurd h.low (by omega), fun b hl e => ?_⟩
        by_cases hcb : rowAt b
        · obtain ⟨j, i, e', s, f, _, _, hk, rfl⟩ := hdec b hcb
          rw [hρrow j i e' s f hk] at e
          have hr := hR.leaf hk
          exact q2 ⟨j, i, by rw [hk]; rfl, hr.blkNo_eq.trans e⟩
        · rw [hblk b hcb] at hl
          have e2 : blkNo (ρ b) = some g := by
            have : ρ' b = ρ b := by show (if rowAt b then _ else ρ b) = ρ b; rw [if_neg hcb]
            rw [this] at e; exact e
          have := (h.live_lt hl e2).2
          omega
    rcases setD_get h.size dst (sh.de st r) v t with ⟨e1, e2⟩ | ⟨e1, e2⟩
    · exact .inl ⟨e1, e2⟩
    · right; rw [e1, e2]
      refine de_ok hR (.inr ⟨Nat.le_refl _, by omega⟩) hok2 (fun j i q => ?_)
      cases hk : leafSh j i sh with
      | row e s f => exact hρrow j i e s f hk
      | _ => rw [hk] at q; cases q
  · rw [put_size, setD_len, h.size]
  · exact put_defers _ _ _
end
end Go.Proofs.Ytfdpbfdhcngfgaa
