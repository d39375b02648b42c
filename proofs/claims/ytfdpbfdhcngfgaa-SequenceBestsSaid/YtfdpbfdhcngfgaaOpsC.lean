/- Each operation does what the run says: all of them. -/
import Derived.Test.YtfdpbfdhcngfgaaOpsB
import Derived.Test.YtfdpbfdhcngfgaaClr
namespace Go.Proofs.Ytfdpbfdhcngfgaa
open Go.RowKit
set_option linter.unusedVariables false
set_option linter.unusedSimpArgs false
section
variable {P : Program} {base : Nat} {w0 : World} {ok0 isd : Nat → Prop} {tm : List DE} {blk : Nat → DB} {ρ : Nat → Value} {a : Act} {w : World} {V : View} {st : Nat} {o : Oper} {Γ : FuncId → Option Ca}
theorem okR_mono {ok : Nat → Prop} {r r' : List Nat} {g : Nat} (h : okR ok ρ r g) (hr : ∀ b ∈ r, b ∈ r') : okR ok ρ r' g := h.imp id fun ⟨b, hb, e⟩ => ⟨b, hr b hb, e⟩
theorem pl_ok (hV : VOk V tm blk) (h : HR base w0 ok0 isd tm blk ρ a w) {d : DE} {v : Value} (hd : RD w (okF base ok0 blk ρ) ρ blk isd d v) {x : AV} {r r' : List Nat} (hp : V.pl d = some (x, r')) (hr : ∀ b ∈ r', b ∈ r) : RV w (okR (okF base ok0 blk ρ) ρ r) x v := by
  cases d with
  | agg cs =>
    simp only [View.pl] at hp
    cases hq : V.pcs cs with
    | none => rw [hq] at hp; cases hp
    | some q =>
      obtain ⟨xs, r2⟩ := q
      rw [hq] at hp
      simp only [Option.map_some, Option.some.injEq, Prod.mk.injEq] at hp
      obtain ⟨rfl, rfl⟩ := hp
      obtain ⟨p1, p2⟩ := pcs_get hq
      cases hd with
      | agg _ vs h1 h2 h3 =>
        refine .agg xs vs (by rw [h1, p1]) (fun i hi => h2 i (p1 ▸ hi)) (fun i hi => ?_)
        obtain ⟨r3, z1, z2⟩ := p2 i (p1 ▸ hi)
        exact (pc_ok hV h (h3 i (p1 ▸ hi)) z1).mono fun g hg _ => ⟨okR_mono hg fun b hb => hr b (z2 b hb), rfl⟩
  | _ => exact (pc_ok hV h hd hp).mono fun g hg _ => ⟨okR_mono hg hr, rfl⟩
theorem pls_get {cs : List DE} {xs : List AV} {r : List Nat} (h : V.pls cs = some (xs, r)) : xs.length = cs.length ∧ ∀ i, i < cs.length → ∃ r', V.pl (cs.getD i .any) = some (xs.getD i default, r') ∧ ∀ b ∈ r', b ∈ r := by
  induction cs generalizing xs r with
  | nil =>
    simp only [View.pls, Option.some.injEq, Prod.mk.injEq] at h
    obtain ⟨rfl, rfl⟩ := h
    exact ⟨rfl, fun i hi => absurd hi (by simp)⟩
  | cons d ds ih =>
    simp only [View.pls] at h
    split at h
    · rename_i x r1 xs' rs h1 h2
      simp only [Option.some.injEq, Prod.mk.injEq] at h
      obtain ⟨rfl, rfl⟩ := h
      obtain ⟨e1, e2⟩ := ih h2
      refine ⟨by simp [e1], fun i hi => ?_⟩
      cases i with
      | zero => exact ⟨r1, h1, fun b hb => List.mem_append_left _ hb⟩
      | succ i =>
        obtain ⟨r', e3, e4⟩ := e2 i (by simpa using hi)
        exact ⟨r', by simpa using e3, fun b hb => List.mem_append_right _ (e4 b hb)⟩
    · cases h
theorem pc_rows {d : DE} {x : AV} {r : List Nat} (h : V.pc d = some (x, r)) : ∀ b ∈ r, ∃ e s n y, V.bl b = .row e s n y := by
  cases d with
  | row b n =>
    simp only [View.pc] at h
    split at h
    · rename_i e s m y hk
      split at h
      · simp only [Option.some.injEq, Prod.mk.injEq] at h
        obtain ⟨_, rfl⟩ := h
        intro b' hb'
        obtain rfl : b' = b := by simpa using hb'
        exact ⟨e, s, m, y, hk⟩
      · cases h
    · split at h
      · simp only [Option.some.injEq, Prod.mk.injEq] at h
        obtain ⟨_, rfl⟩ := h
        intro b' hb'; cases hb'
      · cases h
    · cases h
  | v y => simp only [View.pc, Option.some.injEq, Prod.mk.injEq] at h; obtain ⟨_, rfl⟩ := h; intro b hb; cases hb
  | c y => simp only [View.pc, Option.some.injEq, Prod.mk.injEq] at h; obtain ⟨_, rfl⟩ := h; intro b hb; cases hb
  | nil => simp only [View.pc, Option.some.injEq, Prod.mk.injEq] at h; obtain ⟨_, rfl⟩ := h; intro b hb; cases hb
  | _ => simp only [View.pc] at h; cases h
theorem pcs_rows {cs : List DE} {xs : List AV} {r : List Nat} (h : V.pcs cs = some (xs, r)) : ∀ b ∈ r, ∃ e s n y, V.bl b = .row e s n y := by
  induction cs generalizing xs r with
  | nil =>
    simp only [View.pcs, Option.some.injEq, Prod.mk.injEq] at h
    obtain ⟨_, rfl⟩ := h
    intro b hb; cases hb
  | cons d ds ih =>
    simp only [View.pcs] at h
    split at h
    · rename_i x r1 xs' rs h1 h2
      simp only [Option.some.injEq, Prod.mk.injEq] at h
      obtain ⟨_, rfl⟩ := h
      intro b hb
      rcases List.mem_append.1 hb with q | q
      · exact pc_rows h1 b q
      · exact ih h2 b q
    · cases h
theorem pl_rows {d : DE} {x : AV} {r : List Nat} (h : V.pl d = some (x, r)) : ∀ b ∈ r, ∃ e s n y, V.bl b = .row e s n y := by
  cases d with
  | agg cs =>
    simp only [View.pl] at h
    cases hq : V.pcs cs with
    | none => rw [hq] at h; cases h
    | some q =>
      obtain ⟨ys, r2⟩ := q
      rw [hq] at h
      simp only [Option.map_some, Option.some.injEq, Prod.mk.injEq] at h
      obtain ⟨_, rfl⟩ := h
      exact pcs_rows hq
  | _ => simp only [View.pl] at h; exact pc_rows h
theorem pls_rows {cs : List DE} {xs : List AV} {r : List Nat} (h : V.pls cs = some (xs, r)) : ∀ b ∈ r, ∃ e s n y, V.bl b = .row e s n y := by
  induction cs generalizing xs r with
  | nil =>
    simp only [View.pls, Option.some.injEq, Prod.mk.injEq] at h
    obtain ⟨_, rfl⟩ := h
    intro b hb; cases hb
  | cons d ds ih =>
    simp only [View.pls] at h
    split at h
    · rename_i x r1 xs' rs h1 h2
      simp only [Option.some.injEq, Prod.mk.injEq] at h
      obtain ⟨_, rfl⟩ := h
      intro b hb
      rcases List.mem_append.1 hb with q | q
      · exact pl_rows h1 b q
      · exact ih h2 b q
    · cases h
theorem cap0_ok (hV : VOk V tm blk) (h : HR base w0 ok0 isd tm blk ρ a w) {d : DE} {v : Value} (hd : RD w (okF base ok0 blk ρ) ρ blk isd d v) {x : AV} {r r' : List Nat} (hp : V.cap0 d = some (x, r')) (hr : ∀ b ∈ r', b ∈ r) : RV w (okR (okF base ok0 blk ρ) ρ r) x v := by
  unfold View.cap0 at hp
  split at hp
  · rename_i b
    split at hp
    · rename_i t cs hk
      split at hp
      · rename_i xs r2 hq
        simp only [Option.some.injEq, Prod.mk.injEq] at hp
        obtain ⟨rfl, rfl⟩ := hp
        have hbk : blk b = .cells t cs := by
          rcases hV.b b with e | e
          · rw [← e]; exact hk
          · rw [e] at hk; cases hk
        have hb := h.blks b
        rw [hbk] at hb
        obtain ⟨g, vs, hρ, hbase, hheap, hsz, hone, hcs⟩ := hb
        cases hd with
        | ptr _ _ g' hg' =>
          rw [hρ] at hg'
          injection hg' with hg'
          injection hg' with hg'
          injection hg' with hg'
          subst hg'
          obtain ⟨q1, q2⟩ := pcs_get hq
          refine .ref xs g (fun i => vs.getD i undef) (.inr ⟨b, hr b (by simp), by rw [hρ]; rfl⟩) (Array.getElem?_eq_some_iff.1 hheap).1 (fun i hi => ?_) (fun i hi => hone i (q1 ▸ hi)) (fun i hi => ?_)
          · have : i < vs.size := by rw [hsz]; exact q1 ▸ hi
            simp [World.cell?, hheap, this]
          · obtain ⟨r3, z1, z2⟩ := q2 i (q1 ▸ hi)
            refine (pc_ok hV h (hcs i (q1 ▸ hi)) z1).mono fun g2 hg2 _ => ⟨?_, rfl⟩
            rcases hg2 with q | ⟨b2, hb1, hb2⟩
            · exact .inl q
            · exact .inr ⟨b2, hr b2 (List.mem_cons_of_mem _ (z2 b2 hb1)), hb2⟩
      · cases hp
    · cases hp
  · exact pl_ok hV h hd hp hr
theorem cap0_live (hV : VOk V tm blk) {d : DE} {x : AV} {r : List Nat} (hp : V.cap0 d = some (x, r)) : ∀ b ∈ r, isLive (blk b) = true := by
  unfold View.cap0 at hp
  have hrow : ∀ b, (∃ e s n y, V.bl b = .row e s n y) → isLive (blk b) = true := fun b ⟨e, s, n, y, hk⟩ => by rw [hV.row hk]; rfl
  split at hp
  · rename_i b
    split at hp
    · rename_i t cs hk
      split at hp
      · rename_i xs r2 hq
        simp only [Option.some.injEq, Prod.mk.injEq] at hp
        obtain ⟨rfl, rfl⟩ := hp
        intro b2 hb2
        rcases List.mem_cons.1 hb2 with rfl | hb2
        · rcases hV.b b2 with e | e
          · rw [← e, hk]; rfl
          · rw [e] at hk; cases hk
        · exact hrow b2 (pcs_rows hq b2 hb2)
      · cases hp
    · cases hp
  · exact fun b hb => hrow b (pl_rows hp b hb)
theorem cap0s_get {cs : List DE} {xs : List AV} {r : List Nat} (h : V.cap0s cs = some (xs, r)) : xs.length = cs.length ∧ ∀ i, i < cs.length → ∃ r', V.cap0 (cs.getD i .any) = some (xs.getD i default, r') ∧ ∀ b ∈ r', b ∈ r := by
  induction cs generalizing xs r with
  | nil =>
    simp only [View.cap0s, Option.some.injEq, Prod.mk.injEq] at h
    obtain ⟨rfl, rfl⟩ := h
    exact ⟨rfl, fun i hi => absurd hi (by simp)⟩
  | cons d ds ih =>
    simp only [View.cap0s] at h
    split at h
    · rename_i x r1 xs' rs h1 h2
      simp only [Option.some.injEq, Prod.mk.injEq] at h
      obtain ⟨rfl, rfl⟩ := h
      obtain ⟨e1, e2⟩ := ih h2
      refine ⟨by simp [e1], fun i hi => ?_⟩
      cases i with
      | zero => exact ⟨r1, h1, fun b hb => List.mem_append_left _ hb⟩
      | succ i =>
        obtain ⟨r', e3, e4⟩ := e2 i (by simpa using hi)
        exact ⟨r', by simpa using e3, fun b hb => List.mem_append_right _ (e4 b hb)⟩
    · cases h
theorem cap0s_live (hV : VOk V tm blk) {cs : List DE} {xs : List AV} {r : List Nat} (h : V.cap0s cs = some (xs, r)) : ∀ b ∈ r, isLive (blk b) = true := by
  induction cs generalizing xs r with
  | nil =>
    simp only [View.cap0s, Option.some.injEq, Prod.mk.injEq] at h
    obtain ⟨_, rfl⟩ := h
    intro b hb; cases hb
  | cons d ds ih =>
    simp only [View.cap0s] at h
    split at h
    · rename_i x r1 xs' rs h1 h2
      simp only [Option.some.injEq, Prod.mk.injEq] at h
      obtain ⟨_, rfl⟩ := h
      intro b hb
      rcases List.mem_append.1 hb with q | q
      · exact cap0_live hV h1 b q
      · exact ih h2 b q
    · cases h
theorem cap_ok (hV : VOk V tm blk) (h : HR base w0 ok0 isd tm blk ρ a w) {d : DE} {v : Value} (hd : RD w (okF base ok0 blk ρ) ρ blk isd d v) {x : AV} {r r' : List Nat} (hp : V.cap d = some (x, r')) (hr : ∀ b ∈ r', b ∈ r) : RV w (okR (okF base ok0 blk ρ) ρ r) x v := by
  unfold View.cap at hp
  split at hp
  · rename_i f cs
    split at hp
    · rename_i xs r2 hq
      simp only [Option.some.injEq, Prod.mk.injEq] at hp
      obtain ⟨rfl, rfl⟩ := hp
      obtain ⟨q1, q2⟩ := cap0s_get hq
      cases hd with
      | fn _ _ vs hl hc =>
        refine .clo f xs vs (by rw [hl, q1]) fun i hi => ?_
        obtain ⟨r3, z1, z2⟩ := q2 i (q1 ▸ hi)
        exact cap0_ok hV h (hc i (q1 ▸ hi)) z1 fun b hb => hr b (z2 b hb)
    · cases hp
  · exact cap0_ok hV h hd hp hr
theorem cap_live (hV : VOk V tm blk) {d : DE} {x : AV} {r : List Nat} (hp : V.cap d = some (x, r)) : ∀ b ∈ r, isLive (blk b) = true := by
  unfold View.cap at hp
  split at hp
  · split at hp
    · rename_i xs r2 hq
      simp only [Option.some.injEq, Prod.mk.injEq] at hp
      obtain ⟨rfl, rfl⟩ := hp
      exact cap0s_live hV hq
    · cases hp
  · exact cap0_live hV hp
theorem caps_get {cs : List DE} {xs : List AV} {r : List Nat} (h : V.caps cs = some (xs, r)) : xs.length = cs.length ∧ ∀ i, i < cs.length → ∃ r', V.cap (cs.getD i .any) = some (xs.getD i default, r') ∧ ∀ b ∈ r', b ∈ r := by
  induction cs generalizing xs r with
  | nil =>
    simp only [View.caps, Option.some.injEq, Prod.mk.injEq] at h
    obtain ⟨rfl, rfl⟩ := h
    exact ⟨rfl, fun i hi => absurd hi (by simp)⟩
  | cons d ds ih =>
    simp only [View.caps] at h
    split at h
    · rename_i x r1 xs' rs h1 h2
      simp only [Option.some.injEq, Prod.mk.injEq] at h
      obtain ⟨rfl, rfl⟩ := h
      obtain ⟨e1, e2⟩ := ih h2
      refine ⟨by simp [e1], fun i hi => ?_⟩
      cases i with
      | zero => exact ⟨r1, h1, fun b hb => List.mem_append_left _ hb⟩
      | succ i =>
        obtain ⟨r', e3, e4⟩ := e2 i (by simpa using hi)
        exact ⟨r', by simpa using e3, fun b hb => List.mem_append_right _ (e4 b hb)⟩
    · cases h
theorem caps_live (hV : VOk V tm blk) {cs : List DE} {xs : List AV} {r : List Nat} (h : V.caps cs = some (xs, r)) : ∀ b ∈ r, isLive (blk b) = true := by
  induction cs generalizing xs r with
  | nil =>
    simp only [View.caps, Option.some.injEq, Prod.mk.injEq] at h
    obtain ⟨_, rfl⟩ := h
    intro b hb; cases hb
  | cons d ds ih =>
    simp only [View.caps] at h
    split at h
    · rename_i x r1 xs' rs h1 h2
      simp only [Option.some.injEq, Prod.mk.injEq] at h
      obtain ⟨_, rfl⟩ := h
      intro b hb
      rcases List.mem_append.1 hb with q | q
      · exact cap_live hV h1 b q
      · exact ih h2 b q
    · cases h
/-- What stands at a call. -/
theorem run_call {g : Operand} {args : Array Operand} {ts : Array TypeId} (ho : o.op = .call { callee := .value g, args := args, argTypes := ts }) {f : FuncId} {vs : Array Value} (hg : a.eval g = .func (.func f) #[] vs) (he : Ent P f) : (execOp a.eval o).run P w = .ok (.enter f (args.map a.eval ++ vs)) w := by
  have := he (args.map a.eval ++ vs) w
  simp [execOp, ho, resolve, hg, Deferred.ofValue, invoke, this]
theorem args_ok (hV : VOk V tm blk) (h : HR base w0 ok0 isd tm blk ρ a w) {args : Array Operand} {cs : List DE} {vs : Array Value} (hl : vs.size = cs.length) (hc : ∀ i, i < cs.length → RD w (okF base ok0 blk ρ) ρ blk isd (cs.getD i .any) (vs.getD i undef)) :
    (args.map a.eval ++ vs).size = (args.toList.map V.ev ++ cs).length ∧ ∀ i, i < (args.toList.map V.ev ++ cs).length → RD w (okF base ok0 blk ρ) ρ blk isd ((args.toList.map V.ev ++ cs).getD i .any) ((args.map a.eval ++ vs).getD i undef) := by
  refine ⟨by simp [hl], fun i hi => ?_⟩
  by_cases h1 : i < args.size
  · have e1 : (args.toList.map V.ev ++ cs).getD i .any = V.ev args[i] := by simp [List.getElem?_append_left, h1]
    have e2 : (args.map a.eval ++ vs).getD i undef = a.eval args[i] := by simp [Array.getElem?_append, h1]
    rw [e1, e2]; exact ev_ok hV h _
  · have hi' : i - args.size < cs.length := by simp at hi; omega
    have e1 : (args.toList.map V.ev ++ cs).getD i .any = cs.getD (i - args.size) .any := by
      rw [List.getD_eq_getElem?_getD, List.getElem?_append_right (by simp; omega)]; simp
    have e2 : (args.map a.eval ++ vs).getD i undef = vs.getD (i - args.size) undef := by
      rw [Array.getD_eq_getD_getElem?, Array.getElem?_append, if_neg (by simpa using h1)]; simp
    rw [e1, e2]; exact hc _ hi'
theorem op_call {g : Operand} {args : Array Operand} {ts : Array TypeId} (ho : o.op = .call { callee := .value g, args := args, argTypes := ts }) (hV : VOk V tm blk) (h : HR base w0 ok0 isd tm blk ρ a w) (hst : ∀ n, st ≤ n → n < st + 64 → ¬ isd n) {δ : Delta} (hv : Valid P Γ o st V δ) : Goes P base w0 ok0 isd tm blk st a w o δ := by
  have hx := ev_ok hV h g
  simp only [Valid, opD, ho] at hv
  split at hv
  · rename_i f caps he
    rw [he] at hx
    split at hv
    · rename_i sh hΓ
      split at hv
      · rename_i xs r hp
        split at hv
        · rename_i hsm
          obtain ⟨y, ⟨hent, hfn⟩, rfl⟩ := hv
          generalize hu2 : a.eval g = u at hx
          cases hx with
          | fn _ _ vs hl hc =>
            intro K Q hK
            unfold Oper.wp
            rw [run_call ho hu2 hent, Oper.upon_enter]
            obtain ⟨a1, a2⟩ := args_ok (args := args) hV h hl hc
            obtain ⟨p1, p2⟩ := pls_get hp
            refine (hfn w (fun g => okR (okF base ok0 blk ρ) ρ r g ∧ g < w.heap.size) _ (fun g hg => hg.2) (h.glob r) (by rw [a1, p1]) (fun i hi => ?_)).mono ?_
            · obtain ⟨r', z1, z2⟩ := p2 i (p1 ▸ hi)
              exact (pl_ok hV h (a2 i (p1 ▸ hi)) z1 z2).mono fun g hg hlt => ⟨⟨hg, hlt⟩, rfl⟩
            · rintro e w' ⟨v, rfl, hb, hR, hap, hdrn⟩
              simp only
              have hK' := hK
              cases hfl : sh.flat with
              | true =>
                obtain ⟨ρ', h'⟩ := h.call hst hb hsm (hR.flat (okn' := noBlock) hfl) hap (fun g hg => hg.elim) o.dst hdrn
                simp only [hfl, if_true, List.append_nil] at hK'
                exact hK' ρ' v w' h'
              | false =>
                have hz := h.freeze hV r
                have hside : ∀ g, okNew (fun g => okR (okF base ok0 blk ρ) ρ r g ∧ g < w.heap.size) w.heap.size v sh g → (okF base ok0 (updB blk (V.frz r)) ρ g ∧ g < w.heap.size) ∨ (w.heap.size ≤ g ∧ ¬ inRows v sh g) := by
                  intro g hg
                  rcases hg with ⟨hg, hglt⟩ | hg
                  · left
                    refine ⟨?_, hglt⟩
                    · rcases hg with hg | ⟨b, hb1, hb2⟩
                      · refine ⟨hg.1, fun b' hl' => ?_⟩
                        rw [updB_frz] at hl'
                        split at hl'
                        · split at hl'
                          · cases hl'
                          · exact hg.2 b' hl'
                        · exact hg.2 b' hl'
                      · obtain ⟨e, s, n, x, hk⟩ := pls_rows hp b hb1
                        have hbk := hV.row hk
                        have hlb : isLive (blk b) = true := by rw [hbk]; rfl
                        refine ⟨fun hlt => absurd (h.live_lt hlb hb2).1 (by omega), fun b' hl' e' => ?_⟩
                        by_cases hbb : b' = b
                        · subst hbb
                          rw [updB_frz, if_pos hb1, hk] at hl'
                          cases hl'
                        · have hl2 : isLive (blk b') = true := by
                            rw [updB_frz] at hl'
                            split at hl'
                            · split at hl'
                              · cases hl'
                              · exact hl'
                            · exact hl'
                          exact h.inj b b' hlb hl2 (fun x => hbb x.symm) g hb2 e'
                  · exact .inr hg
                obtain ⟨ρ', h'⟩ := hz.call hst hb hsm hR hap hside o.dst hdrn
                rw [← updB_append] at h'
                simp only [hfl, Bool.false_eq_true, if_false] at hK'
                exact hK' ρ' v w' h'
        · exact hv.elim
      · split at hv
        · rename_i xs r hp
          split at hv
          · rename_i hsm
            rw [Bool.and_eq_true] at hsm
            obtain ⟨hsm, hfl⟩ := hsm
            obtain ⟨y, ⟨hent, hfn⟩, rfl⟩ := hv
            generalize hu2 : a.eval g = u at hx
            cases hx with
            | fn _ _ vs hl hc =>
              intro K Q hK
              unfold Oper.wp
              rw [run_call ho hu2 hent, Oper.upon_enter]
              obtain ⟨a1, a2⟩ := args_ok (args := args) hV h hl hc
              obtain ⟨p1, p2⟩ := caps_get hp
              refine (hfn w (fun g => okR (okF base ok0 blk ρ) ρ r g ∧ g < w.heap.size) _ (fun g hg => hg.2) (h.glob r) (by rw [a1, p1]) (fun i hi => ?_)).mono ?_
              · obtain ⟨r', z1, z2⟩ := p2 i (p1 ▸ hi)
                exact (cap_ok hV h (a2 i (p1 ▸ hi)) z1 z2).mono fun g hg hlt => ⟨⟨hg, hlt⟩, rfl⟩
              · rintro e w' ⟨v, rfl, hb, hR, hap, hdrn⟩
                simp only
                obtain ⟨ρ', h'⟩ := h.call hst hb hsm (hR.flat (okn' := noBlock) hfl) hap (fun g hg => hg.elim) o.dst hdrn
                exact hK ρ' v w' h'
          · exact hv.elim
        · exact hv.elim
    · rename_i ret hΓ
      split at hv
      · rename_i b n rest hargs
        split at hv
        · rename_i e s m X xs r hb hp
          split at hv
          · rename_i hc
            obtain ⟨rfl, hrb⟩ := hc
            obtain ⟨y, ⟨hent, hfn⟩, rfl⟩ := hv
            have hbk := hV.row hb
            have hlb : isLive (blk b) = true := by rw [hbk]; rfl
            have hrow := h.row hbk
            generalize hu2 : a.eval g = u at hx
            cases hx with
            | fn _ _ vs hl hc =>
              intro K Q hK
              unfold Oper.wp
              rw [run_call ho hu2 hent, Oper.upon_enter]
              obtain ⟨a1, a2⟩ := args_ok (args := args) hV h hl hc
              rw [hargs] at a1 a2
              obtain ⟨p1, p2⟩ := caps_get hp
              generalize args.map a.eval ++ vs = cv at a1 a2 ⊢
              have hv0 : cv.getD 0 undef = ρ b := by
                have q := a2 0 (by simp)
                generalize cv.getD 0 undef = z at q
                cases q with
                | row _ _ _ hn h1' hs => exact hs (by rw [hbk]; rfl)
              have hsplit : cv = #[ρ b] ++ cv.extract 1 cv.size := by
                have hne : 0 < cv.size := by rw [a1]; simp
                rw [← hv0]
                apply Array.ext_getElem?
                intro k
                rw [Array.getElem?_append]
                by_cases hk : k < 1
                · obtain rfl : k = 0 := by omega
                  simp [hne]
                · rw [if_neg (by simpa using hk)]
                  simp only [List.size_toArray, List.length_cons, List.length_nil, Nat.zero_add, Array.getElem?_extract]
                  by_cases hk2 : k < cv.size
                  · rw [if_pos (by omega)]; congr 1; omega
                  · rw [if_neg (by omega)]; exact Array.getElem?_eq_none (by omega)
              rw [hsplit]
              refine (hfn w (fun g => okR (okF base ok0 blk ρ) ρ r g ∧ g < w.heap.size) base (fun g => okF base ok0 blk ρ g ∧ g < w.heap.size) (ρ b) (cv.extract 1 cv.size) (hrow.keep (fun _ _ => rfl) fun g hg hlt => ⟨⟨hg, hlt⟩, rfl⟩) (fun g hg => ⟨fun e => hg.1.2 b hlb (hrow.blkNo_eq ▸ e), hg.2⟩) (fun g hg => ⟨fun e => ?_, hg.2⟩) h.low (h.glob r) (by simp [a1, p1]) (fun i hi => ?_)).mono ?_
              · rcases hg.1 with q | ⟨b', hb1, hb2⟩
                · exact q.2 b hlb (hrow.blkNo_eq ▸ e)
                · exact h.inj b b' hlb (caps_live hV hp b' hb1) (fun x => hrb (by rw [x]; simpa using hb1)) g (hrow.blkNo_eq ▸ e) hb2
              · obtain ⟨r', z1, z2⟩ := p2 i (p1 ▸ hi)
                have q := a2 (i + 1) (by rw [List.length_cons, ← p1]; omega)
                have e1 : (DE.row b m :: rest).getD (i + 1) .any = rest.getD i .any := by simp
                have e2 : (cv.extract 1 cv.size).getD i undef = cv.getD (i + 1) undef := by
                  have : i + 1 < cv.size := by rw [a1, List.length_cons, ← p1]; omega
                  simp only [Array.getD_eq_getD_getElem?, Array.getElem?_extract]
                  rw [if_pos (by omega)]
                  congr 2; omega
                rw [e1] at q
                rw [e2]
                exact (cap_ok hV h q z1 z2).mono fun g hg hlt => ⟨⟨hg, hlt⟩, rfl⟩
              · rintro e' w' ⟨v, rfl, hg, hR, hret, hfresh, hdrn⟩
                simp only
                have hR' : ∀ ok' : Nat → Prop, (∀ g, okF base ok0 blk ρ g → g < w.heap.size → ok' g ∧ w'.heap[g]? = w.heap[g]?) → RRow w' base e s ok' y v := fun ok' hk => hR.keep (fun _ _ => rfl) fun g hg hlt => ⟨(hk g hg.1 hg.2).1, rfl⟩
                cases ret with
                | true =>
                  have hn : isd m := by have := h.blks b; rw [hbk] at this; exact this.1
                  have := h.updRow (st := st) hbk st (.inr rfl) (hst st (Nat.le_refl _) (by omega)) y v (fun e => absurd (e ▸ hn) (hst st (Nat.le_refl _) (by omega))) w' hg hR' hfresh o.dst (.row b st) v (.inr (.inr ⟨rfl, rfl⟩))
                  exact hK _ v w' this
                | false =>
                  have := h.updRow (st := st) hbk m (.inl rfl) (hst st (Nat.le_refl _) (by omega)) y v (fun _ => hret rfl) w' hg hR' hfresh o.dst (.tup []) (.tuple #[]) (.inr (.inl ⟨#[], rfl, rfl, rfl⟩))
                  exact hK _ (.tuple #[]) w' this
          · exact hv.elim
        · exact hv.elim
      · exact hv.elim
    · exact hv.elim
    · exact hv.elim
  · rename_i x he
    rw [he] at hx
    split at hv
    · rename_i xs hp
      obtain ⟨y, ⟨f, caps, rfl, hent, hfn⟩, rfl⟩ := hv
      generalize hu2 : a.eval g = u at hx
      cases hx with
      | v _ _ hrv =>
        cases hrv with
        | clo _ _ vs hl hc =>
          intro K Q hK
          unfold Oper.wp
          rw [run_call ho hu2 hent, Oper.upon_enter]
          obtain ⟨p1, p2⟩ := pls_get hp
          have p1' : xs.length = args.size := by simpa using p1
          refine (hfn w (fun g => okR (okF base ok0 blk ρ) ρ [] g ∧ g < w.heap.size) _ (fun g hg => hg.2) (h.glob []) (by simp [p1', hl]) (fun i hi => ?_)).mono ?_
          · by_cases h1 : i < args.size
            · have e1 : (xs ++ caps).getD i default = xs.getD i default := by
                rw [List.getD_eq_getElem?_getD, List.getElem?_append_left (by omega), ← List.getD_eq_getElem?_getD]
              have e2 : (args.map a.eval ++ vs).getD i undef = a.eval args[i] := by simp [Array.getElem?_append, h1]
              have e3 : (args.toList.map V.ev).getD i .any = V.ev args[i] := by simp [h1]
              obtain ⟨r', z1, z2⟩ := p2 i (by simpa using h1)
              rw [e3] at z1
              rw [e1, e2]
              exact (pl_ok hV h (ev_ok hV h _) z1 z2).mono fun g hg hlt => ⟨⟨hg, hlt⟩, rfl⟩
            · have hi' : i - args.size < caps.length := by rw [List.length_append] at hi; omega
              have e1 : (xs ++ caps).getD i default = caps.getD (i - args.size) default := by
                rw [List.getD_eq_getElem?_getD, List.getElem?_append_right (by omega), p1', ← List.getD_eq_getElem?_getD]
              have e2 : (args.map a.eval ++ vs).getD i undef = vs.getD (i - args.size) undef := by
                rw [Array.getD_eq_getD_getElem?, Array.getElem?_append, if_neg (by simpa using h1)]; simp
              rw [e1, e2]
              exact (hc _ hi').mono fun g hg hlt => ⟨⟨.inl hg, hlt⟩, rfl⟩
          · rintro e w' ⟨v, rfl, hb, hR, hap, hdrn⟩
            simp only
            obtain ⟨ρ', h'⟩ := h.call hst hb rfl (hR.flat (okn' := noBlock) rfl) hap (fun g hg => hg.elim) o.dst hdrn
            exact hK ρ' v w' h'
    · exact hv.elim
  · exact hv.elim
/-- **Each operation does what the run says.** -/
theorem op_sound (hV : VOk V tm blk) (h : HR base w0 ok0 isd tm blk ρ a w) (hst : ∀ n, st ≤ n → n < st + 64 → ¬ isd n) {δ : Delta} (hv : Valid P Γ o st V δ) : Goes P base w0 ok0 isd tm blk st a w o δ := by
  have hst0 : ¬ isd st := hst st (Nat.le_refl _) (by omega)
  cases ho : o.op with
  | move x => exact op_move ho hV h hv
  | assign x => exact op_assign ho hV h hst0 hv
  | pick c x y => exact op_pick ho hV h hv
  | alloc t => exact op_alloc ho hV h hst0 hv
  | box t x => exact op_box ho hV h hst0 hv
  | build t ps => exact op_build ho hV h hv
  | buildSlice t n ps => exact op_buildSlice ho hV h hst0 hv
  | load t x => exact op_load ho hV h hv
  | store t x y => exact op_store ho hV h hst0 hv
  | nilCheck x => exact op_nilCheck ho hV h hv
  | binOp op t x y qt => exact op_bin ho hV h hv
  | unOp op t x => exact op_un ho hV h hv
  | convert s t x => exact op_conv ho hV h hv
  | makeFunc fn fi cs => exact op_makeFunc ho hV h hv
  | makeSlice t x y => exact op_makeSlice ho hV h hst0 hv
  | slice t x lo hi mx => exact op_slice ho hV h hv
  | fieldAddr t x f => exact op_fieldAddr ho hV h hv
  | field t x f => exact op_field ho hV h hv
  | indexAddr t x i => exact op_indexAddr ho hV h hv
  | index t x i => exact op_index ho hV h hv
  | extract x i => exact op_extract ho hV h hv
  | call c =>
    obtain ⟨callee, args, ts⟩ := c
    cases callee with
    | value g => exact op_call ho hV h hst hv
    | invoke r m => simp only [Valid, opD, ho] at hv; exact hv.elim
    | builtin b =>
      cases b with
      | len => exact op_len ho hV h hv
      | max => exact op_minmax (.inl rfl) ho hV h hv
      | min => exact op_minmax (.inr rfl) ho hV h hv
      | clear => exact op_clear ho hV h hst0 hv
      | append =>
        have hv' := hv
        simp only [Valid, opD, ho] at hv'
        split at hv'
        · rename_i x y t t' h1 h2
          obtain rfl : args = #[x, y] := by cases args; simp_all
          obtain rfl : ts = #[t, t'] := by cases ts; simp_all
          exact op_append ho hV h hst0 hv
        · exact hv'.elim
      | _ => simp only [Valid, opD, ho] at hv; exact hv.elim
  | _ => simp only [Valid, opD, ho] at hv; exact hv.elim
/-- With something decided. -/
def Val1 (P : Program) (Γ : FuncId → Option Ca) (o : Oper) (st : Nat) (V : View) (δ : Delta) : Prop := ∃ hint, Valid P Γ o st { V with hint := hint } δ
theorem op_sound1 (hV : VOk V tm blk) (h : HR base w0 ok0 isd tm blk ρ a w) (hst : ∀ n, st ≤ n → n < st + 64 → ¬ isd n) {δ : Delta} (hv : Val1 P Γ o st V δ) : Goes P base w0 ok0 isd tm blk st a w o δ := by
  obtain ⟨hint, hv⟩ := hv
  exact op_sound (V := { V with hint := hint }) ⟨hV.t, hV.b⟩ h hst hv
end
end Go.Proofs.Ytfdpbfdhcngfgaa
