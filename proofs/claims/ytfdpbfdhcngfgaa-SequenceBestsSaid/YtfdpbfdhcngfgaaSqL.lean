/- sequences: the laws. -/
import Derived.Test.YtfdpbfdhcngfgaaArgs
import Derived.Test.YtfdpbfdhcngfgaaSqC
namespace Go.Proofs.Ytfdpbfdhcngfgaa
open Go.RowKit
set_option linter.unusedVariables false
set_option linter.unusedSimpArgs false
set_option maxRecDepth 100000
theorem pos_at {l : List Ar} (g : GoodA l) {k i : Nat} (h : (natO l)[k]? = some i) : pos l i = k := by
  have hi : i < l.length := natO_mem.1 (List.mem_of_getElem? h)
  have h1 := idI_spec (i : Nat) ((natO l).map fun k : Nat => (k : Int)) 0
  rw [if_pos (List.mem_map.2 ⟨i, natO_mem.2 hi, rfl⟩), idx_pos g hi] at h1
  obtain ⟨j, e, hj, _⟩ := h1
  have hj' : (natO l)[j]? = some i := by
    rw [List.getElem?_map] at hj
    cases q : (natO l)[j]? with
    | none => rw [q] at hj; cases hj
    | some x =>
      rw [q] at hj
      have : (x : Int) = i := by simpa using hj
      congr 1; omega
  have hnd : (natO l).Nodup := (natO_perm l).nodup_iff.2 List.nodup_range
  have hk := (List.getElem?_eq_some_iff.1 h)
  have hjj := (List.getElem?_eq_some_iff.1 hj')
  obtain ⟨k1, k2⟩ := hk
  obtain ⟨j1, j2⟩ := hjj
  have hpw := List.pairwise_iff_getElem.1 (List.nodup_iff_pairwise_ne.1 hnd)
  rcases Nat.lt_trichotomy k j with q | q | q
  · exact absurd (by rw [k2, j2]) (hpw k j k1 j1 q)
  · omega
  · exact absurd (by rw [k2, j2]) (hpw j k j1 k1 q)
def sfact : Prop := Fn Try.prog 5 [] .sc (.bool true)
theorem ltimes_fn (hfact : sfact) (l : List Ar) (o : List Int) (T : Nat → Int) (hl : l.length ≤ maxLen) (ho : o.length ≤ maxLen) : Fn Try.prog 3 [ars l, ints o, tabA T] .sc (.bool true) := by
  have e := SqF.ltimes_form (ars l) (ints o) (tabA T) (.bool true)
  have k := fun h => fn_run mixed 3 (Γ := SqF.Γ) (ann := SqF.ann) Try.func3 rfl Try.call3 (e.mpr h)
  refine k ?_
  clear k e
  simp only [cels]
  refine ⟨⟨_, rfl, rfl⟩, _, hfact, ?_⟩
  simp
  refine ⟨_, natural_fn l, _, times_fn l o T ho, _, shift_fn l o ho, _, aerr_fn l, _, scheck_fn l, ?_⟩
  by_cases h1 : arrE l = 0
  · have g := goodA h1
    have hll := g.len
    have hN : natV l = .tup [nts (natO l), .int 0] := by unfold natV; rw [if_pos h1]
    have hS : sfV l o = if okO o l.length = false then .tup [.int 0, .int 3] else .tup [.int (shf l (nat o)), .int 0] := by unfold sfV; rw [if_neg (by simp [h1])]
    have t1 : tabErr T ≠ 0 → tsV l o T = .tup [.sl 1 [], .int (tabErr T)] := fun q => by unfold tsV; rw [if_neg (by simp [h1]), if_pos q]
    have t2 : tabErr T = 0 → okO o l.length = false → tsV l o T = .tup [.sl 1 [], .int 3] := fun q q2 => by unfold tsV; rw [if_neg (by simp [h1]), if_neg (by simp [q]), if_pos q2]
    have t3 : tabErr T = 0 → okO o l.length = true → fitz l (zl l T [] (nat o)) = true → tsV l o T = .tup [ints (tms (zl l T [] (nat o))), .int 0] := fun q q2 q3 => by unfold tsV; rw [if_neg (by simp [h1]), if_neg (by simp [q]), if_neg (by simp [q2]), if_pos q3]
    have t4 : tabErr T = 0 → okO o l.length = true → ¬ fitz l (zl l T [] (nat o)) = true → tsV l o T = .tup [.sl 1 [], .int 8] := fun q q2 q3 => by unfold tsV; rw [if_neg (by simp [h1]), if_neg (by simp [q]), if_neg (by simp [q2]), if_neg q3]
    rw [hN, h1]
    simp [natO_len]
    refine loop_list (σ := Unit) (natO l) (fun n _ => [.int (n : Nat)]) (fun n rest _ => True) () rfl trivial ?_ ?_
    · rintro n i rest _ K hx hr hn _ hK
      rw [natO_len] at hn
      have hi : i < l.length := natO_mem.1 (List.mem_of_getElem? hx)
      have hp := place_fn (l := l) (by omega) hi
      rw [pos_at g hx] at hp
      have hw : IntKind.i64.wrap ((n : Int) + 1) = (n : Int) + 1 := wrap64 (by omega) (by omega)
      have hK' : K [.int ((n : Nat) + 1)] := hK _ () (by simp) trivial
      clear hK
      simp [hn, nts_at hx, natO_len, hi, hw]
      exact ⟨_, hp, by simp [hw]; exact hK'⟩
    · rintro _ K _
      simp [natO_len]
      refine ⟨_, risord_fn o l.length (by omega) ho, ?_⟩
      cases h3 : okO o l.length
      · rw [hS, if_pos h3]
        simp
        refine ⟨_, table_fn T, ?_⟩
        by_cases h2 : tabErr T = 0
        · rw [t2 h2 h3]
          simp [h2]
        · rw [t1 h2]
          simp [h2]
      · rw [hS, if_neg (by simp [h3])]
        obtain ⟨e1, e2⟩ := okO_nts h3
        have hm : ∀ i ∈ nat o, i < l.length := fun i hi => List.mem_range.1 (e2.mem_iff.1 hi)
        have hlen : (nat o).length ≤ 1000 := by rw [e2.length_eq, List.length_range]; omega
        have hs := shifted_fn (l := l) (by omega) hm hlen
        rw [e1] at hs
        simp
        refine ⟨_, hs, ?_⟩
        simp
        refine ⟨_, table_fn T, ?_⟩
        by_cases h2 : tabErr T = 0
        · have hld := land_fn g h2 hm hlen
          rw [e1] at hld
          simp [h2]
          refine ⟨_, hld, ?_⟩
          unfold ldV
          by_cases h4 : fitz l (zl l T [] (nat o)) = true
          · have hq := eqi_fn (tms (zl l T [] (nat o))) (tms (zl l T [] (nat o))) (by unfold tms; rw [List.length_map, show zl l T [] (nat o) = zP l T (nat o) from rfl, zP_len]; unfold maxLen; omega)
            rw [t3 h2 h3 h4, h4]
            simp
            simpa using hq
          · rw [t4 h2 h3 h4, Bool.eq_false_iff.2 h4]
            simp
        · rw [t1 h2]
          simp [h2]
  · have hN : natV l = .tup [.sl 1 [], .int (arrE l)] := by unfold natV; rw [if_neg h1]
    have hS : sfV l o = .tup [.int 0, .int (arrE l)] := by unfold sfV; rw [if_pos h1]
    have hT : tsV l o T = .tup [.sl 1 [], .int (arrE l)] := by unfold tsV; rw [if_pos h1]
    rw [hN, hS, hT]
    simp [h1]
    exact wrap64 (by omega) (by omega)
theorem lbests_fn (hfact : sfact) (l : List Ar) (T : Nat → Int) (m : Int) (hl : l.length ≤ maxLen) : Fn Try.prog 4 [ars l, tabA T, .int m] .sc (.bool true) := by
  have e := SqF.lbests_form (ars l) (tabA T) (.int m) (.bool true)
  have k := fun h => fn_run mixed 3 (Γ := SqF.Γ) (ann := SqF.ann) Try.func4 rfl Try.call4 (e.mpr h)
  refine k ?_
  clear k e
  simp only [cels]
  refine ⟨⟨_, rfl, rfl⟩, _, hfact, ?_⟩
  unfold maxLen at hl
  simp
  refine fun h7 => ⟨h7, fun h8 => ⟨_, best_fn l T m, _, aerr_fn l, ?_⟩⟩
  have w0 : IntKind.i64.wrap 0 = 0 := wrap64 (by omega) (by omega)
  by_cases h1 : arrE l = 0
  · have g := goodA h1
    have hll := g.len
    have b2 : tabErr T ≠ 0 → bV l T m = .tup [.sl 1 [], .sl 1 [], .int (tabErr T)] := fun q => by unfold bV; rw [if_neg (by simp [h1]), if_pos q]
    have b3 : tabErr T = 0 → (m < 0 ∨ m > 8) → bV l T m = .tup [.sl 1 [], .sl 1 [], .int 4] := fun q q3 => by unfold bV; rw [if_neg (by simp [h1]), if_neg (by simp [q]), if_pos q3]
    have b4 : tabErr T = 0 → ¬ (m < 0 ∨ m > 8) → l = [] → bV l T m = .tup [.sl 1 [], .sl 1 [], .int 0] := fun q q3 q4 => by unfold bV; rw [if_neg (by simp [h1]), if_neg (by simp [q]), if_neg q3, if_pos q4]
    have b5 : tabErr T = 0 → ¬ (m < 0 ∨ m > 8) → l ≠ [] → bst l T m = none → bV l T m = .tup [.sl 1 [], .sl 1 [], .int 8] := fun q q3 q4 q5 => by unfold bV; rw [if_neg (by simp [h1]), if_neg (by simp [q]), if_neg q3, if_neg q4, q5]
    have b6 : ∀ p, tabErr T = 0 → ¬ (m < 0 ∨ m > 8) → l ≠ [] → bst l T m = some p → bV l T m = .tup [nts p, ints (tms (zP l T p)), .int 0] := fun p q q3 q4 q5 => by unfold bV; rw [if_neg (by simp [h1]), if_neg (by simp [q]), if_neg q3, if_neg q4, q5]
    simp [h1]
    refine ⟨_, table_fn T, ?_⟩
    by_cases h2 : tabErr T = 0
    · simp [h2]
      refine ⟨fun q => ⟨q, ?_⟩, fun q => ⟨q, fun q2 => ?_, fun q2 => ⟨_, border_fn g h2 m, ?_⟩⟩⟩
      · rw [b3 h2 (.inl q)]; simp [w0]
      · rw [b3 h2 (.inr q2)]; simp [w0]
      · refine ⟨fun q3 => ?_, fun q3 => ?_⟩
        · rw [b4 h2 (by omega) (by simpa using q3)]; simp [w0]
        · have q3' : l ≠ [] := by simpa using q3
          unfold boV
          cases hb : bst l T m with
          | none => rw [b5 h2 (by omega) q3' hb]; simp [w0]
          | some p =>
            obtain ⟨hp1, hp2⟩ := fold_good (l := l) (T := T) (most := m) (ords l.length l.length []) none (fun x hx => ords_all hx) (by simp) p hb
            have hm : ∀ i ∈ p, i < l.length := fun i hi => List.mem_range.1 (hp1.mem_iff.1 hi)
            have hlen : p.length = l.length := by rw [hp1.length_eq, List.length_range]
            have hld := land_fn g h2 hm (by omega)
            have hq := eqi_fn (p.map fun k : Nat => (k : Int)) (p.map fun k : Nat => (k : Int)) (by rw [List.length_map]; unfold maxLen; omega)
            rw [← nts_ints] at hq
            have hq2 := eqi_fn (tms (zP l T p)) (tms (zP l T p)) (by unfold tms; rw [List.length_map, zP_len]; unfold maxLen; omega)
            rw [show ldV l T p = .tup [ints (tms (zP l T p)), .bool (fitz l (zP l T p))] from rfl, hp2] at hld
            rw [b6 p h2 (by omega) q3' hb]
            simp
            refine ⟨_, hld, ?_⟩
            refine ⟨_, hq, ?_⟩
            simp
            simpa using hq2
    · rw [b2 h2]
      simp [h2, w0]
  · have hV : bV l T m = .tup [.sl 1 [], .sl 1 [], .int (arrE l)] := by unfold bV; rw [if_pos h1]
    rw [hV]
    simp [h1, w0]
/-- The blocks of a walk: those that were known, and the new ones. -/
def okW (w : World) (ok : Nat → Prop) (W : World) (g : Nat) : Prop := ok g ∨ (w.heap.size ≤ g ∧ g < W.heap.size)
theorem rs0_rv {W' : World} {okn ok' : Nat → Prop} {B : Nat} {r : AV} {v : Value} {sh : Sh} (h : RS0 W' okn B r v sh) (h1 : ∀ g, okn g → g < W'.heap.size → ok' g) (h2 : ∀ g, B ≤ g → g < W'.heap.size → ok' g) : RV W' ok' r v := by
  have hp : ∀ {r v}, RV W' noBlock r v → RV W' ok' r v := fun h => h.mono fun g hg => hg.elim
  cases sh with
  | row e s f =>
    have h : RRow W' B e s (if f then noBlock else okn) r v := h
    refine h.rv (fun g hg hlt => ?_) fun g hg => h2 g (h.lt hg).1 (h.lt hg).2
    cases f
    · exact h1 g hg hlt
    · exact hg.elim
  | p =>
    have h : RV W' okn r v := h
    exact h.mono fun g hg hlt => ⟨h1 g hg hlt, rfl⟩
  | _ => exact hp h
theorem rs1_rv {W' : World} {okn ok' : Nat → Prop} {B : Nat} {r : AV} {v : Value} {sh : Sh} (h : RS1 W' okn B r v sh) (h1 : ∀ g, okn g → g < W'.heap.size → ok' g) (h2 : ∀ g, B ≤ g → g < W'.heap.size → ok' g) : RV W' ok' r v := by
  cases sh with
  | agg cs =>
    obtain ⟨vs, rfl, hs, ⟨xs, rfl, hl⟩, h⟩ := h
    exact .agg _ _ (by rw [hs, hl]) (fun i hi => (h i (by omega)).1) fun i hi => rs0_rv (h i (by omega)).2 h1 h2
  | sc => exact rs0_rv (sh := .sc) h h1 h2
  | p => exact rs0_rv (sh := .p) h h1 h2
  | row e s f => exact rs0_rv (sh := .row e s f) h h1 h2
  | tup cs => exact rs0_rv (sh := .tup cs) h h1 h2
theorem rs2_rv {W' : World} {okn ok' : Nat → Prop} {B : Nat} {r : AV} {v : Value} {sh : Sh} (h : RS2 W' okn B r v sh) (h1 : ∀ g, okn g → g < W'.heap.size → ok' g) (h2 : ∀ g, B ≤ g → g < W'.heap.size → ok' g) : RV W' ok' r v := by
  cases sh with
  | tup cs =>
    obtain ⟨vs, rfl, hs, ⟨xs, rfl, hl⟩, h⟩ := h
    exact .tup _ _ (by rw [hs, hl]) fun i hi => rs1_rv (h i (by omega)) h1 h2
  | sc => exact rs1_rv (sh := .sc) h h1 h2
  | p => exact rs1_rv (sh := .p) h h1 h2
  | row e s f => exact rs1_rv (sh := .row e s f) h h1 h2
  | agg cs => exact rs1_rv (sh := .agg cs) h h1 h2
/-- What is kept. -/
def Kps (W : World) (o : Nat → Prop) (ks : List (AV × Value)) : Prop := ∀ p ∈ ks, RV W o p.1 p.2
structure Base (w : World) (ok : Nat → Prop) : Prop where
  lt : ∀ g, ok g → g < w.heap.size
  gl : Gl w.heap.size w ok
theorem Base.all {w : World} {ok : Nat → Prop} (h : Base w ok) {W : World} (hb : Below w.heap.size w W) : (∀ g, okW w ok W g → g < W.heap.size) ∧ Gl W.heap.size W (okW w ok W) := by
  have := hb.size
  have hg := h.gl.later hb
  refine ⟨fun g hg => hg.elim (fun q => by have := h.lt g q; omega) fun q => q.2, fun p hp => ?_, fun g hg' => ⟨Nat.lt_of_lt_of_le (hg.2 g hg').1 this, (hg.2 g hg').2⟩⟩
  obtain ⟨a, b, c⟩ := hg.1 p hp
  exact ⟨Nat.lt_of_lt_of_le a this, .inl b, c⟩
theorem Kps.step {w : World} {ok : Nat → Prop} {W W' : World} {ks : List (AV × Value)} (h : Kps W (okW w ok W) ks) (hb : Below W.heap.size W W') : Kps W' (okW w ok W') ks := fun p hp => (h p hp).mono fun g hg hlt => ⟨hg.imp id fun q => ⟨q.1, Nat.lt_of_lt_of_le q.2 hb.size⟩, hb.block g hlt⟩
theorem Kps.cons {W : World} {o : Nat → Prop} {ks : List (AV × Value)} {x : AV} {v : Value} (h : Kps W o ks) (hx : RV W o x v) : Kps W o ((x, v) :: ks) := fun p hp => by
  rcases List.mem_cons.1 hp with rfl | hp
  · exact hx
  · exact h p hp
/-- A call, in a walk. -/
theorem fcall {P : Program} {f : FuncId} {args : List AV} {sh : Sh} {r : AV} (hf : Fn P f args sh r) {w : World} {ok : Nat → Prop} (hB : Base w ok) {W : World} (hb : Below w.heap.size w W) {ks : List (AV × Value)} (hk : Kps W (okW w ok W) ks) (cargs : Array Value) (hsz : cargs.size = args.length)
    (hargs : ∀ i, i < args.length → RV W (okW w ok W) (args.getD i default) (cargs.getD i undef)) :
    Calls P f cargs W fun e W' => ∃ v, e = .returned v ∧ Below w.heap.size w W' ∧ Below W.heap.size W W' ∧ Kps W' (okW w ok W') ((r, v) :: ks) ∧ W.drawn ≤ W'.drawn := by
  obtain ⟨h1, h2⟩ := hB.all hb
  refine (hf.2 W (okW w ok W) cargs h1 h2 hsz hargs).mono ?_
  rintro e W' ⟨v, rfl, hbl, hr, _, hd⟩
  have hs := hb.size
  have hs2 := hbl.size
  exact ⟨v, rfl, hb.trans (hbl.mono hs), hbl, (hk.step hbl).cons (rs2_rv hr (fun g hg hlt => hg.elim (fun q => q.imp id fun q => ⟨q.1, hlt⟩) fun q => .inr ⟨by omega, hlt⟩) fun g hg hlt => .inr ⟨by omega, hlt⟩), hd⟩
/-- A literal of two numbers. -/
theorem lit2 {w : World} {ok : Nat → Prop} {W : World} (hb : Below w.heap.size w W) {ks : List (AV × Value)} (hk : Kps W (okW w ok W) ks) (x y : Int) (e : TypeId) :
    Below w.heap.size w (W.alloc (.cells #[.int .i64 x, .int .i64 y] e)) ∧ Below W.heap.size W (W.alloc (.cells #[.int .i64 x, .int .i64 y] e)) ∧
      Kps (W.alloc (.cells #[.int .i64 x, .int .i64 y] e)) (okW w ok (W.alloc (.cells #[.int .i64 x, .int .i64 y] e))) ((ints [x, y], .slice (some ⟨W.heap.size, 0, none⟩) 2 2) :: ks) := by
  have hbl : Below W.heap.size W (W.alloc (.cells #[.int .i64 x, .int .i64 y] e)) := (Below.refl _ W).alloc (Nat.le_refl _) _
  have hs := hb.size
  have hh : (W.alloc (.cells #[.int .i64 x, .int .i64 y] e)).heap[W.heap.size]? = some (.cells #[.int .i64 x, .int .i64 y] e (0, 0)) := World.alloc_heap_new W _
  have hsz : (W.alloc (.cells #[.int .i64 x, .int .i64 y] e)).heap.size = W.heap.size + 1 := by simp
  refine ⟨hb.trans (hbl.mono hs), hbl, (hk.step hbl).cons ?_⟩
  refine .sl 1 _ _ 2 2 (fun i _ => .int .i64 (if i = 0 then x else y)) rfl (Nat.le_refl _) (by unfold maxLen; omega) (by simp [encI]) (fun _ => ⟨_, _, rfl, .inr ⟨hs, by omega⟩, by omega, fun i j hi hj => ?_⟩) (fun i j hi hj => rfl) (fun i j hi hj => ?_)
  · obtain rfl : j = 0 := by omega
    rw [cell_of_row _ _ _ _ _ _ hh]
    have : i = 0 ∨ i = 1 := by omega
    rcases this with rfl | rfl <;> rfl
  · obtain rfl : j = 0 := by omega
    have : i = 0 ∨ i = 1 := by omega
    rcases this with rfl | rfl <;> exact .lit _
def L0 : List Ar := [⟨⟨#[65]⟩, 2, 10, 900⟩, ⟨⟨#[66]⟩, 0, 0, 900⟩]
def T0 (n : Nat) : Int := [60, 60, 60, 60, 120, 60, 60, 60, 180, 120, 90, 60, 240, 180, 120, 120].getD n 0
theorem tab0 : tabErr T0 = 0 := by
  have h1 : ∀ n, n < 16 → (30 ≤ T0 n ∧ T0 n ≤ 600) := of_decide_eq_true (by kernel_rfl)
  have h2 : ∀ i, i < 64 → T0 (4 * (i / 16) + i % 4) ≤ T0 (4 * (i / 16) + i / 4 % 4) + T0 (4 * (i / 4 % 4) + i % 4) := of_decide_eq_true (by kernel_rfl)
  exact tab_good h1 h2
theorem q1 : natV L0 = .tup [ints [1, 0], .int 0] := by kernel_rfl
theorem q2 : sfV L0 [0, 1] = .tup [.int 1, .int 0] := by kernel_rfl
theorem q3 : arrE L0 = 0 := by kernel_rfl
theorem q4 : arrE (L0 ++ L0) = 7 := by kernel_rfl
theorem q5 : tsV L0 [0, 1] T0 = .tup [ints [10, 190], .int 0] := by
  unfold tsV
  rw [if_neg (by simp [q3]), if_neg (by simp [tab0]), if_neg (by rw [show okO [0, 1] L0.length = true from by kernel_rfl]; simp), if_pos (by kernel_rfl)]
  kernel_rfl
theorem q6 : bV L0 T0 1 = .tup [ints [1, 0], ints [0, 60], .int 0] := by
  unfold bV
  rw [if_neg (by simp [q3]), if_neg (by simp [tab0]), if_neg (by omega), if_neg (by simp [L0]), show bst L0 T0 1 = some [1, 0] from by kernel_rfl]
  kernel_rfl
theorem std_fn : Fn Try.prog 19 [] .sc (tabA T0) := by
  refine fn_run mixed 3 (Γ := SqF.Γ) (ann := SqF.ann) Try.func19 rfl Try.call19 ((SqF.standard_form _).mpr ?_)
  simp
  rfl
theorem tup2 {W : World} {o : Nat → Prop} {x y : AV} {v : Value} (h : RV W o (.tup [x, y]) v) : ∃ a b, v = .tuple #[a, b] ∧ RV W o x a ∧ RV W o y b := by
  cases h with
  | tup _ vs hl h =>
    obtain ⟨a, b, rfl⟩ : ∃ a b, vs = #[a, b] := by
      obtain ⟨c⟩ := vs
      match c, hl with
      | [a, b], _ => exact ⟨a, b, rfl⟩
    exact ⟨a, b, rfl, h 0 (by simp), h 1 (by simp)⟩
theorem tup3 {W : World} {o : Nat → Prop} {x y z : AV} {v : Value} (h : RV W o (.tup [x, y, z]) v) : ∃ a b c, v = .tuple #[a, b, c] ∧ RV W o x a ∧ RV W o y b ∧ RV W o z c := by
  cases h with
  | tup _ vs hl h =>
    obtain ⟨a, b, c, rfl⟩ : ∃ a b c, vs = #[a, b, c] := by
      obtain ⟨c⟩ := vs
      match c, hl with
      | [a, b, c], _ => exact ⟨a, b, c, rfl⟩
    exact ⟨a, b, c, rfl, h 0 (by simp), h 1 (by simp), h 2 (by simp)⟩
theorem Kps.tail {W : World} {o : Nat → Prop} {ks : List (AV × Value)} {q : AV × Value} (h : Kps W o (q :: ks)) : Kps W o ks := fun p hp => h p (List.mem_cons_of_mem _ hp)
theorem Kps.hd {W : World} {o : Nat → Prop} {ks : List (AV × Value)} {x : AV} {v : Value} (h : Kps W o ((x, v) :: ks)) : RV W o x v := h _ (List.mem_cons_self ..)
theorem a1 {W : World} {o : Nat → Prop} {x : AV} {a : Value} (h : RV W o x a) : ∀ i, i < [x].length → RV W o ([x].getD i default) (#[a].getD i undef) := fun i hi => by
  obtain rfl : i = 0 := by simpa using hi
  exact h
theorem a2 {W : World} {o : Nat → Prop} {x y : AV} {a b : Value} (h : RV W o x a) (h' : RV W o y b) : ∀ i, i < [x, y].length → RV W o ([x, y].getD i default) (#[a, b].getD i undef) := fun i hi => by
  have hi : i < 2 := hi
  have : i = 0 ∨ i = 1 := by omega
  rcases this with rfl | rfl
  · exact h
  · exact h'
theorem a3 {W : World} {o : Nat → Prop} {x y z : AV} {a b c : Value} (h : RV W o x a) (h' : RV W o y b) (h'' : RV W o z c) : ∀ i, i < [x, y, z].length → RV W o ([x, y, z].getD i default) (#[a, b, c].getD i undef) := fun i hi => by
  have hi : i < 3 := hi
  have : i = 0 ∨ i = 1 ∨ i = 2 := by omega
  rcases this with rfl | rfl | rfl
  · exact h
  · exact h'
  · exact h''
theorem info_ar : (Try.prog.info? 48).map (fun i => (i.zero, i.size, i.bytes)) = some (some (.agg #[.string ⟨#[]⟩, .int .i64 0, .int .i64 0, .int .i64 0]), 4, 40) := by kernel_rfl
theorem inf_ar : ∃ inf, Try.prog.info? 48 = some inf ∧ inf.zero = some (.agg #[.string ⟨#[]⟩, .int .i64 0, .int .i64 0, .int .i64 0]) ∧ inf.size = 4 ∧ inf.bytes = 40 := by
  have h := info_ar
  cases q : Try.prog.info? 48 with
  | none => rw [q] at h; cases h
  | some inf =>
    rw [q] at h
    have h' : (inf.zero, inf.size, inf.bytes) = (some (.agg #[.string ⟨#[]⟩, .int .i64 0, .int .i64 0, .int .i64 0]), 4, 40) := by injection h
    exact ⟨inf, rfl, congrArg (·.1) h', congrArg (·.2.1) h', congrArg (·.2.2) h'⟩
def uL (b : Nat) : Value := .slice (some ⟨b, 0, none⟩) 2 2
def cL : Array Value := #[.string ⟨#[65]⟩, .int .i64 2, .int .i64 10, .int .i64 900, .string ⟨#[66]⟩, .int .i64 0, .int .i64 0, .int .i64 900]
theorem eqT (l : List Int) (h : l.length ≤ 100) : Fn Try.prog 16 [ints l, ints l] .sc (.bool true) := by
  have := eqi_fn l l (by unfold maxLen; omega)
  simpa using this
theorem wpList_append_g {P : Program} (w : World) {ops : Array Oper} {rest : List Oper} {o : Oper} {a : Act} {Q : Exit → Act → World → Prop} (hw : Region.wanted o (yielded ops a.tmps) = true) (s x : Operand) (t tn : TypeId)
    (ho : o.op = .call { callee := .builtin .append, args := #[s, x], argTypes := #[t, tn] }) (vs vx : Value) (hs : a.eval s = vs) (hx : a.eval x = vx)
    (v' : Value) (w' : World) (hr : (Builtin.append_ #[t, tn] o.type #[vs, vx]).run P w = .ok v' w') (h : wpList P ops Q rest (a.put o.dst v') w') : wpList P ops Q (o :: rest) a w :=
  wpList_step fun K hK => by
    rw [if_pos hw]
    exact Lib.wp_append_run w s x t tn ho vs vx hs hx v' w' hr (hK _ _ h)
theorem src0 {W : World} {b : Nat} (h : W.heap[b]? = some (.cells cL 48 (0, 0))) : Src W noBlock 4 (ars L0) (uL b) := by
  refine ⟨some ⟨b, 0, none⟩, 2, fun i j => cL.getD (i * 4 + j) undef, rfl, by simp [L0, encA], by simp [L0, maxLen], fun _ => ⟨b, 0, rfl, fun i j hi hj => ?_⟩, fun i j hi hj => ?_, fun i j hi hj => ?_⟩
  · have hi : i < 2 := hi
    have h1 : i = 0 ∨ i = 1 := by omega
    have h2 : j = 0 ∨ j = 1 ∨ j = 2 ∨ j = 3 := by omega
    rw [cell_of_row _ _ _ _ _ _ h]
    rcases h1 with rfl | rfl <;> rcases h2 with rfl | rfl | rfl | rfl <;> rfl
  · have hi : i < 2 := hi
    have h1 : i = 0 ∨ i = 1 := by omega
    have h2 : j = 0 ∨ j = 1 ∨ j = 2 ∨ j = 3 := by omega
    rcases h1 with rfl | rfl <;> rcases h2 with rfl | rfl | rfl | rfl <;> rfl
  · have hi : i < 2 := hi
    have h1 : i = 0 ∨ i = 1 := by omega
    have h2 : j = 0 ∨ j = 1 ∨ j = 2 ∨ j = 3 := by omega
    rcases h1 with rfl | rfl <;> rcases h2 with rfl | rfl | rfl | rfl <;> exact .lit _
theorem row0 {W : World} {b B : Nat} (hB : B ≤ b) (h : W.heap[b]? = some (.cells cL 48 (0, 0))) : RRow W B 48 4 noBlock (ars L0) (uL b) := by
  refine ⟨_, cL.toList, rfl, by omega, by simp [L0, encA], ⟨rfl, .inr ⟨b, 2, cL, rfl, hB, h, Nat.le_refl _, by unfold maxLen; omega, rfl, rfl⟩⟩, fun u hu => ?_, fun i j hi hj => ?_⟩
  · simp [cL] at hu
    rcases hu with rfl | rfl | rfl | rfl | rfl | rfl | rfl | rfl <;> rfl
  · have hi : i < 2 := hi
    have h1 : i = 0 ∨ i = 1 := by omega
    have h2 : j = 0 ∨ j = 1 ∨ j = 2 ∨ j = 3 := by omega
    rcases h1 with rfl | rfl <;> rcases h2 with rfl | rfl | rfl | rfl <;> exact .lit _
set_option maxHeartbeats 4000000 in
theorem sfact_fn : sfact := by
  refine ⟨Try.call5, fun w ok cargs hok hgl hsz hargs => calls_of_wp Try.func5 rfl ?_⟩
  obtain rfl : cargs = #[] := Array.eq_empty_of_size_eq_zero hsz
  have hB : Base w ok := ⟨hok, hgl⟩
  simp only [Try.ntmps5, List.size_toArray, List.length_cons, List.length_nil, Nat.reduceAdd, Nat.reduceSub, Array.replicate_succ, Array.replicate_zero, List.push_toArray, List.append_toArray, List.nil_append, List.cons_append]
  obtain ⟨W1, hW1⟩ : ∃ W1, W1 = w.alloc (.cells cL 48) := ⟨_, rfl⟩
  have hs1 : W1.heap.size = w.heap.size + 1 := by rw [hW1]; simp
  have hb1 : Below w.heap.size w W1 := by rw [hW1]; exact (Below.refl _ w).alloc (Nat.le_refl _) _
  have hg1 : W1.heap[w.heap.size]? = some (.cells cL 48 (0, 0)) := by rw [hW1]; exact World.alloc_heap_new w _
  have hk1 : Kps W1 (okW w ok W1) [(ars L0, uL w.heap.size)] := fun p hp => by
    rw [List.mem_singleton] at hp
    subst hp
    exact (row0 (Nat.le_refl _) hg1).rv (fun g hg => hg.elim) fun g hg => .inr (by have hq : w.heap.size = g := Option.some.inj hg; exact ⟨by omega, by omega⟩)
  have hd1 : w.drawn ≤ W1.drawn := by rw [hW1]; exact Nat.le_refl _
  unfold cL at hW1
  go_wp2_with fail
  rw [← hW1]
  refine (fcall (natural_fn L0) hB hb1 hk1 #[uL w.heap.size] rfl (a1 hk1.hd)).mono ?_
  rintro e W2 ⟨v2, rfl, hb2, hl2, hk2, hd2⟩
  have hr2 := hk2.hd
  rw [q1] at hr2
  obtain ⟨n, c2, rfl, hn, hc2⟩ := tup2 hr2
  obtain rfl := RV.lit_iff.1 hc2
  replace hk2 := hk2.tail.cons hn
  clear hr2 hc2 hn
  have hg2 := (hl2.block _ (by omega)).trans hg1
  obtain ⟨hb3, hl3, hk3⟩ := lit2 hb2 hk2 0 1 3
  go_wp2_with fail
  refine (fcall std_fn hB hb3 hk3 #[] rfl (fun i hi => absurd hi (by simp))).mono ?_
  rintro e W4 ⟨v4, rfl, hb4, hl4, hk4, hd4⟩
  replace hd4 : w.drawn ≤ W4.drawn := Nat.le_trans (Nat.le_trans hd1 hd2) hd4
  go_wp2_with fail
  refine (fcall (times_fn L0 [0, 1] T0 (by unfold maxLen; simp)) hB hb4 hk4 #[uL w.heap.size, .slice (some ⟨W2.heap.size, 0, none⟩) 2 2, v4] rfl (a3 (hk4 (ars L0, uL w.heap.size) (by simp)) hk4.tail.hd hk4.hd)).mono ?_
  rintro e W5 ⟨v5, rfl, hb5, hl5, hk5, hd5⟩
  have hr5 := hk5.hd
  rw [q5] at hr5
  obtain ⟨t, c5, rfl, ht, hc5⟩ := tup2 hr5
  obtain rfl := RV.lit_iff.1 hc5
  replace hk5 := hk5.tail.tail.tail.cons ht
  clear hr5 hc5 ht
  have hg4 := (hl4.block _ (by have := hl2.size; have := hl3.size; omega)).trans ((hl3.block _ (by have := hl2.size; omega)).trans hg2)
  have hg5 := (hl5.block _ (by have := hl2.size; have := hl3.size; have := hl4.size; omega)).trans hg4
  obtain ⟨hb6, hl6, hk6⟩ := lit2 hb5 hk5 0 1 3
  go_wp2_with fail
  refine (fcall (shift_fn L0 [0, 1] (by unfold maxLen; simp)) hB hb6 hk6 #[uL w.heap.size, .slice (some ⟨W5.heap.size, 0, none⟩) 2 2] rfl (a2 (hk6 (ars L0, uL w.heap.size) (by simp)) hk6.hd)).mono ?_
  rintro e W7 ⟨v7, rfl, hb7, hl7, hk7, hd7⟩
  have hr7 := hk7.hd
  rw [q2] at hr7
  obtain ⟨k7, c7, rfl, hkk, hc7⟩ := tup2 hr7
  obtain rfl := RV.lit_iff.1 hkk
  obtain rfl := RV.lit_iff.1 hc7
  replace hk7 := hk7.tail.tail
  clear hr7 hkk hc7
  have hg7 := (hl7.block _ (by have := hl6.size; have := hl2.size; have := hl3.size; have := hl4.size; have := hl5.size; omega)).trans ((hl6.block _ (by have := hl2.size; have := hl3.size; have := hl4.size; have := hl5.size; omega)).trans hg5)
  go_wp2_with fail
  refine (fcall std_fn hB hb7 hk7 #[] rfl (fun i hi => absurd hi (by simp))).mono ?_
  rintro e W8 ⟨v8, rfl, hb8, hl8, hk8, hd8⟩
  have hg8 := (hl8.block _ (Array.getElem?_eq_some_iff.1 hg7).1).trans hg7
  go_wp2_with fail
  refine (fcall (best_fn L0 T0 1) hB hb8 hk8 #[uL w.heap.size, v8, .int .i64 1] rfl (a3 (hk8 (ars L0, uL w.heap.size) (by simp)) hk8.hd (.lit _))).mono ?_
  rintro e W9 ⟨v9, rfl, hb9, hl9, hk9, hd9⟩
  have hg9 := (hl9.block _ (Array.getElem?_eq_some_iff.1 hg8).1).trans hg8
  have hr9 := hk9.hd
  rw [q6] at hr9
  obtain ⟨be, ba, c9, rfl, hbe, hba, hc9⟩ := tup3 hr9
  obtain rfl := RV.lit_iff.1 hc9
  replace hk9 := (hk9.tail.tail.cons hba).cons hbe
  clear hr9 hc9 hba hbe
  obtain ⟨hbA, hlA, hkA⟩ := lit2 hb9 hk9 1 0 3
  have hgA := (hlA.block _ (Array.getElem?_eq_some_iff.1 hg9).1).trans hg9
  go_wp2_with fail
  refine (fcall (eqT [1, 0] (by simp)) hB hbA hkA #[n, .slice (some ⟨W9.heap.size, 0, none⟩) 2 2] rfl (a2 (hkA (ints [1, 0], n) (by simp)) hkA.hd)).mono ?_
  rintro e WB ⟨vB, rfl, hbB, hlB, hkB, hdB⟩
  obtain rfl := RV.lit_iff.1 hkB.hd
  replace hkB := hkB.tail.tail
  have hgB := (hlB.block _ (Array.getElem?_eq_some_iff.1 hgA).1).trans hgA
  obtain ⟨hbC, hlC, hkC⟩ := lit2 hbB hkB 10 190 3
  have hgC := (hlC.block _ (Array.getElem?_eq_some_iff.1 hgB).1).trans hgB
  go_wp2_with fail
  refine (fcall (eqT [10, 190] (by simp)) hB hbC hkC #[t, .slice (some ⟨WB.heap.size, 0, none⟩) 2 2] rfl (a2 (hkC (ints [10, 190], t) (by simp)) hkC.hd)).mono ?_
  rintro e WD ⟨vD, rfl, hbD, hlD, hkD, hdD⟩
  obtain rfl := RV.lit_iff.1 hkD.hd
  replace hkD := hkD.tail.tail
  have hgD := (hlD.block _ (Array.getElem?_eq_some_iff.1 hgC).1).trans hgC
  obtain ⟨hbE, hlE, hkE⟩ := lit2 hbD hkD 1 0 3
  have hgE := (hlE.block _ (Array.getElem?_eq_some_iff.1 hgD).1).trans hgD
  go_wp2_with fail
  refine (fcall (eqT [1, 0] (by simp)) hB hbE hkE #[be, .slice (some ⟨WD.heap.size, 0, none⟩) 2 2] rfl (a2 (hkE (ints [1, 0], be) (by simp)) hkE.hd)).mono ?_
  rintro e WF ⟨vF, rfl, hbF, hlF, hkF, hdF⟩
  obtain rfl := RV.lit_iff.1 hkF.hd
  replace hkF := hkF.tail.tail
  have hgF := (hlF.block _ (Array.getElem?_eq_some_iff.1 hgE).1).trans hgE
  obtain ⟨hbG, hlG, hkG⟩ := lit2 hbF hkF 0 60 3
  have hgG := (hlG.block _ (Array.getElem?_eq_some_iff.1 hgF).1).trans hgF
  go_wp2_with fail
  refine (fcall (eqT [0, 60] (by simp)) hB hbG hkG #[ba, .slice (some ⟨WF.heap.size, 0, none⟩) 2 2] rfl (a2 (hkG (ints [0, 60], ba) (by simp)) hkG.hd)).mono ?_
  rintro e WH ⟨vH, rfl, hbH, hlH, hkH, hdH⟩
  obtain rfl := RV.lit_iff.1 hkH.hd
  replace hkH := hkH.tail.tail
  have hgH := (hlH.block _ (Array.getElem?_eq_some_iff.1 hgG).1).trans hgG
  have hrowH := row0 (B := w.heap.size) (Nat.le_refl _) hgH
  obtain ⟨inf, hi0, hz0, hz1, hz2⟩ := inf_ar
  obtain ⟨vI, WI, hrun, hgr, hown, hres⟩ := run_append_av (ty := 22) (B := w.heap.size) (t := 22) Try.underlying22 hi0 hz0 hz1 rfl (by omega) hrowH (src0 hgH) hbH.size (by omega) (by unfold AV.room; rw [hz2]; simp [L0])
  obtain ⟨hrowI, _⟩ := hres noBlock (fun g hg => hg.elim)
  rw [lst_app] at hrowI
  have hbI : Below w.heap.size w WI := hbH.grown hgr hbH.size (fun g e => (hrowH.lt e).1)
  have hkI : Kps WI (okW w ok WI) [(ars (L0 ++ L0), vI)] := fun p hp => by
    rw [List.mem_singleton] at hp
    subst hp
    exact hrowI.rv (fun g hg => hg.elim) fun g hg => .inr (hrowI.lt hg)
  have hck := scheck_fn (L0 ++ L0)
  rw [q4] at hck
  go_wp2_with (at_builtin; refine wpList_append_g _ rfl _ _ _ _ rfl _ _ rfl rfl _ _ hrun ?_)
  refine (fcall hck hB hbI hkI #[vI] rfl (a1 hkI.hd)).mono ?_
  rintro e WJ ⟨vJ, rfl, hbJ, hlJ, hkJ, hdJ⟩
  obtain rfl := RV.lit_iff.1 hkJ.hd
  have hdI := run_drawn _ hrun
  go_wp2_with fail
  have f7 : W5.drawn ≤ W7.drawn := hd7
  have fB : W9.drawn ≤ WB.drawn := hdB
  have fD : WB.drawn ≤ WD.drawn := hdD
  have fF : WD.drawn ≤ WF.drawn := hdF
  have fH : WF.drawn ≤ WH.drawn := hdH
  refine ⟨rfl, _, results_tmp rfl _ _ _, _, rfl, hbJ, ?_, fun j i _ _ hr => ?_, by omega⟩
  · show RV WJ noBlock (.bool true) (.bool true)
    exact .lit _
  have : leafSh j i .sc = .sc := by cases j <;> cases i <;> rfl
  rw [this] at hr
  cases hr
theorem arg_int {x : AV} (h : ArgOk Try.prog 3 x) : ∃ n, x = .int n ∧ I64 n := c_int (by kernel_rfl) (arg_cell (by kernel_rfl) h)
theorem arg_ars {x : AV} (h : ArgOk Try.prog 22 x) : ∃ l, x = ars l ∧ l.length ≤ maxLen := by
  obtain ⟨l, e, h1, _⟩ := c_lst (P := Try.prog) (encA := encA) (Q := fun _ => True) (tys := [9, 3, 3, 3]) (s := 4) (e := 48) (by kernel_rfl) (by kernel_rfl) (by kernel_rfl) (fun y hy hc => by
    obtain ⟨a, b, c, d, rfl⟩ := lst4 hy
    obtain ⟨s1, e1, _⟩ := c_str (by kernel_rfl) (hc 0 9 rfl)
    obtain ⟨s2, e2, _⟩ := c_int (by kernel_rfl) (hc 1 3 rfl)
    obtain ⟨s3, e3, _⟩ := c_int (by kernel_rfl) (hc 2 3 rfl)
    obtain ⟨s4, e4, _⟩ := c_int (by kernel_rfl) (hc 3 3 rfl)
    simp at e1 e2 e3 e4
    exact ⟨⟨s1, s2, s3, s4⟩, by rw [e1, e2, e3, e4]; rfl, trivial⟩) (arg_cell (by kernel_rfl) h)
  exact ⟨l, e, h1⟩
theorem arg_ints {x : AV} (h : ArgOk Try.prog 23 x) : ∃ l, x = ints l ∧ l.length ≤ maxLen := by
  obtain ⟨l, e, h1, _⟩ := c_lst (P := Try.prog) (encA := encI) (Q := fun _ => True) (tys := [3]) (s := 1) (e := 3) (by kernel_rfl) (by kernel_rfl) (by kernel_rfl) (fun y hy hc => by
    obtain ⟨a, rfl⟩ := lst1 hy
    obtain ⟨s1, e1, _⟩ := c_int (by kernel_rfl) (hc 0 3 rfl)
    simp at e1
    exact ⟨s1, by rw [e1]; rfl, trivial⟩) (arg_cell (by kernel_rfl) h)
  exact ⟨l, e, h1⟩
theorem arg_tab {x : AV} (h : ArgOk Try.prog 26 x) : ∃ T, x = tabA T := by
  obtain ⟨cs, rfl, hl, hc⟩ := arg_agg (P := Try.prog) (t := 26) (tys := List.replicate 16 3) (by kernel_rfl) (by kernel_rfl) h
  have hn : ∀ i, i < 16 → ∃ n, cs.getD i default = .int n := fun i hi => by
    obtain ⟨n, e, _⟩ := c_int (by kernel_rfl) (hc i 3 (by rw [List.getElem?_replicate, if_pos hi]))
    exact ⟨n, e⟩
  have hl' : cs.length = 16 := by simpa using hl
  refine ⟨fun i => if h : i < 16 then (hn i h).choose else 0, ?_⟩
  congr 1
  have hT : ∀ i (h : i < 16), cs.getD i default = .int ((hn i h).choose) := fun i h => (hn i h).choose_spec
  refine List.ext_getElem? fun i => ?_
  rcases Nat.lt_or_ge i 16 with hi | hi
  · have e1 : cs[i]? = some (cs.getD i default) := by
      rw [List.getD_eq_getElem?_getD, List.getElem?_eq_getElem (by omega)]; rfl
    rw [e1, hT i hi]
    rcases (show i = 0 ∨ i = 1 ∨ i = 2 ∨ i = 3 ∨ i = 4 ∨ i = 5 ∨ i = 6 ∨ i = 7 ∨ i = 8 ∨ i = 9 ∨ i = 10 ∨ i = 11 ∨ i = 12 ∨ i = 13 ∨ i = 14 ∨ i = 15 by omega) with rfl | rfl | rfl | rfl | rfl | rfl | rfl | rfl | rfl | rfl | rfl | rfl | rfl | rfl | rfl | rfl <;> rfl
  · rw [List.getElem?_eq_none (by omega), List.getElem?_eq_none (by simp [tabL]; omega)]
theorem sequenceTimes_all (xs : List AV) (h1 : xs.length = 3) (h2 : ∀ i, i < 3 → ArgOk Try.prog ([22, 23, 26].getD i 0) (xs.getD i default)) : Fn Try.prog 3 xs .sc (.bool true) := by
  obtain ⟨a, b, c, rfl⟩ := lst3 h1
  obtain ⟨l, e1, hl⟩ := arg_ars (h2 0 (by omega))
  obtain ⟨o, e2, ho⟩ := arg_ints (h2 1 (by omega))
  obtain ⟨T, e3⟩ := arg_tab (h2 2 (by omega))
  simp at e1 e2 e3
  subst e1 e2 e3
  exact ltimes_fn sfact_fn l o T hl ho
theorem sequenceBests_all (xs : List AV) (h1 : xs.length = 3) (h2 : ∀ i, i < 3 → ArgOk Try.prog ([22, 26, 3].getD i 0) (xs.getD i default)) : Fn Try.prog 4 xs .sc (.bool true) := by
  obtain ⟨a, b, c, rfl⟩ := lst3 h1
  obtain ⟨l, e1, hl⟩ := arg_ars (h2 0 (by omega))
  obtain ⟨T, e2⟩ := arg_tab (h2 1 (by omega))
  obtain ⟨m, e3, _⟩ := arg_int (h2 2 (by omega))
  simp at e1 e2 e3
  subst e1 e2 e3
  exact lbests_fn sfact_fn l T m hl
end Go.Proofs.Ytfdpbfdhcngfgaa
