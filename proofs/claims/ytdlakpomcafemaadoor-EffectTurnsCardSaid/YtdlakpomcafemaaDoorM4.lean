/- Texts of one proof, part 4: plain values, a run over them, contracts of functions. -/
import Derived.Test.YtdlakpomcafemaaDoorM3
import Derived.Test.YtdlakpomcafemaaDoorM1
import Derived.Lib.SmallJoins
import Derived.Deep.Slices
import Derived.Deep.Fields
import Derived.ChangeSame
import Derived.Shelf.RegionOpenPlain
import Derived.WalkKit
import Derived.Deep.RegionLaw
import Derived.Deep.Upon
import Derived.Lib.Walk
import Derived.Lib.SliceRun
import Derived.Lib.JoinLaws
import Derived.Lib.AppendZerosOnto
import Derived.Laws.Externs
import Derived.Laws.IdiomCopy
import Derived.Laws.NewBlocks
import Derived.SizedLaws
import Derived.LaidMore
import Derived.OpenShut
import Derived.MakeChecks
/- Walking into a called function's text. -/
namespace Go.Proofs.YtdlakpomcafemaaDoor
open Go.RowKit
set_option linter.unusedVariables false
set_option linter.unusedSimpArgs false
section
variable {P : Program} {Γ : FuncId → Option Ca} {ann : FuncId → Nat → LoopEx}
theorem inF_fr : ∀ n, InlFr (inF P Γ ann n)
  | 0 => fun f args σ K K' h hK => h.elim
  | n + 1 => fun f args σ K K' h hK => by
    unfold inF at h ⊢
    by_cases hv : (ann f 999999).drop ≠ []
    · rw [if_pos hv] at h ⊢
      exact visF_fr _ _ _ _ _ _ _ h hK
    rw [if_neg hv] at h ⊢
    simp only at h ⊢
    split at h
    · exact h.elim
    · rename_i fn hf
      split at h
      · exact h.elim
      · rename_i c hb
        intro vs
        refine runC_mono (inF_fr n) c _ _ _ (h vs) fun e σ' hk hfb _ _ => ?_
        split at hk
        · rename_i hex
          rw [if_pos hex]
          split at hk
          · rename_i d hd
            split at hk
            · exact hk.elim
            · rename_i hp
              rw [if_neg hp]
              refine hK _ _ hk ?_ rfl
              obtain ⟨⟨p, hp⟩, _, h3⟩ := hfb
              exact ⟨⟨(σ.clk, .dead) :: p ++ [(σ.clk, .sv σ.tm vs)], by simp [hp]⟩, rfl, by have h3' : σ.clk + 64 ≤ σ'.clk := h3; show σ.clk ≤ σ'.clk; omega⟩
          · exact hk.elim
        · exact hk.elim
theorem inF_ok (hm : P.follows .mixedOrders = true) : ∀ n, InlOk P (inF P Γ ann n)
  | 0 => fun base w0 ok0 f args σ K ρ a w cargs hent h _ _ _ => h.elim
  | n + 1 => fun base w0 ok0 f args σ K ρ a w cargs hent h hs hsz hargs => by
    unfold inF at h
    by_cases hv : (ann f 999999).drop ≠ []
    · rw [if_pos hv] at h
      exact visF_ok (inF_ok hm n) (inF_fr n) _ _ f args σ K cargs hent h hs hsz hargs
    rw [if_neg hv] at h
    simp only at h
    split at h
    · exact h.elim
    · rename_i fn hf
      split at h
      · exact h.elim
      · rename_i c hb
        have hs0 := hs
        replace hs : HS base w ok0 σ ρ { tmps := a.tmps, defers := [] } w := HR.fresh hs
        refine calls_marks hf hb ?_
        have hdead : σ.blk σ.clk = .dead := hs.frs σ.clk (fun q => Nat.lt_irrefl _ q)
        have hund : ρ σ.clk = undef := by have := hs.blks σ.clk; rw [hdead] at this; exact this
        let σ1 : DS := ⟨args ++ List.replicate (fn.ntmps - args.length) (DE.c undef), (σ.clk, .sv σ.tm a.tmps) :: σ.bl, σ.clk + 64, σ.orc⟩
        have hb1 : σ1.blk = updB σ.blk [(σ.clk, .sv σ.tm a.tmps)] := blk_app σ [(σ.clk, .sv σ.tm a.tmps)] _ _ _
        have h0 : HS base w ok0 σ1 ρ { tmps := cargs ++ Array.replicate (fn.ntmps - cargs.size) undef, defers := [] } w := by
          show HR base w ok0 (fun n => n < σ.clk + 64) σ1.tm σ1.blk ρ _ w
          rw [hb1]
          refine HR.step hs (fun b => b = σ.clk) (fun b hc => updB_ne _ _ _ hc) (fun b _ => rfl) (fun b t cs _ _ => rfl) (fun b n x hc e => by rw [hc, hdead] at e; cases e)
            (fun n hn => by have : n < σ.clk := hn; show n < σ.clk + 64; omega) (fun b hc => by show b < σ.clk + 64; rw [hc]; omega) (fun b n hc _ hst => by rw [hc, updB_one] at hst; cases hst) (Nat.le_refl _) (fun _ _ _ => rfl)
            (fun b hc hl => by rw [hc, updB_one] at hl; cases hl) (fun b b' hc _ hl => by rw [hc, updB_one] at hl; cases hl) rfl rfl rfl (fun H1 H5 b hc => ?_) (fun H1 t => .inr ?_) (by simp [σ1, hsz]) rfl
          · rw [hc, updB_one]
            exact ⟨hund, hs.size, fun t => H5 _ _ (hs.tms t)⟩
          · by_cases ht : t < args.length
            · have e1 : σ1.tm.getD t .any = args.getD t .any := by
                show (args ++ List.replicate (fn.ntmps - args.length) (DE.c undef)).getD t .any = _
                rw [List.getD_eq_getElem?_getD, List.getElem?_append_left ht, ← List.getD_eq_getElem?_getD]
              have e2 : (cargs ++ Array.replicate (fn.ntmps - cargs.size) undef).getD t undef = cargs.getD t undef := by
                rw [Array.getD_eq_getD_getElem?, Array.getElem?_append, if_pos (by omega), ← Array.getD_eq_getD_getElem?]
              rw [e1]
              show RD _ _ _ _ _ _ ((cargs ++ Array.replicate (fn.ntmps - cargs.size) undef).getD t undef)
              rw [e2]
              refine (hargs t ht).mono H1 (fun _ _ _ => rfl) (fun n hn => by have : n < σ.clk := hn; show n < σ.clk + 64; omega) fun b n hn hst => ?_
              by_cases hc : b = σ.clk
              · rw [hc, updB_one] at hst; cases hst
              · rw [updB_ne _ _ _ hc] at hst; exact ⟨hst, rfl⟩
            · by_cases ht2 : t < fn.ntmps
              · have e1 : σ1.tm.getD t .any = .c undef := by
                  show (args ++ List.replicate (fn.ntmps - args.length) (DE.c undef)).getD t .any = _
                  rw [List.getD_eq_getElem?_getD, List.getElem?_append_right (by omega), List.getElem?_replicate]
                  rw [if_pos (by omega)]; rfl
                have e2 : (cargs ++ Array.replicate (fn.ntmps - cargs.size) undef).getD t undef = undef := by
                  rw [Array.getD_eq_getD_getElem?, Array.getElem?_append, if_neg (by omega), Array.getElem?_replicate]
                  split <;> rfl
                rw [e1]
                show RD _ _ _ _ _ _ ((cargs ++ Array.replicate (fn.ntmps - cargs.size) undef).getD t undef)
                rw [e2]; exact .c _
              · have e1 : σ1.tm.getD t .any = .any := by
                  show (args ++ List.replicate (fn.ntmps - args.length) (DE.c undef)).getD t .any = _
                  rw [List.getD_eq_getElem?_getD, List.getElem?_eq_none (by simp; omega)]; rfl
                rw [e1]; exact .any _
        have hrun := runC_mono (inF_fr n) c σ1 _ (fun e σ' => (if exits e then (match resultD P fn σ' with | some d => if (preOf σ1 σ').contains σ.clk then fStuck "saved slots" else K d { tm := σ.tm, bl := (σ.clk, .dead) :: σ'.bl, clk := σ'.clk, orc := σ'.orc } | none => fStuck "results") else fStuck "exit") ∧ FrB σ1 σ') (h a.tmps) (fun e σ' hk q1 _ _ => ⟨hk, q1⟩)
        refine runC_sound hm (inF_ok hm n) (inF_fr n) c σ1 _ ρ _ w _ hrun h0 fun e σ' ρ' a' w' hk h' => ?_
        obtain ⟨hk, hfb⟩ := hk
        obtain ⟨Ds, hD1, hD2, hD3, h'⟩ := HR.unmark h'
        generalize hwt : turned Ds w' = wt at h'
        split at hk
        · rename_i hex
          split at hk
          · rename_i d hd
            split at hk
            · exact hk.elim
            · rename_i hpre
              obtain ⟨v, hv1, hv2⟩ := resultD_ok h' hd
              obtain ⟨⟨p, hp⟩, _, h3⟩ := hfb
              have h3' : σ.clk + 64 ≤ σ'.clk := h3
              have hsv : σ'.blk σ.clk = .sv σ.tm a.tmps := by
                have hpo : preOf σ1 σ' = p.map (·.1) := by
                  unfold preOf
                  rw [hp, List.length_append, Nat.add_sub_cancel, List.take_left]
                have : σ'.blk = updB σ1.blk p := by
                  obtain ⟨tm, bl, c, oc⟩ := σ'
                  simp only at hp
                  subst hp
                  exact blk_app σ1 p tm c _
                rw [this, updB_of_not (by rw [← hpo]; simpa using hpre), hb1, updB_one]
              have hB := h'.blks σ.clk
              rw [hsv] at hB
              have hfin : (DS.mk σ.tm ((σ.clk, .dead) :: σ'.bl) σ'.clk σ'.orc).blk = updB σ'.blk [(σ.clk, .dead)] := blk_app σ' [(σ.clk, .dead)] _ _ _
              have H4 : ∀ b n, n < σ'.clk → stampOf (updB σ'.blk [(σ.clk, .dead)] b) = some n → stampOf (σ'.blk b) = some n ∧ ρ' b = ρ' b := fun b n _ hst => by
                by_cases hc : b = σ.clk
                · rw [hc, updB_one] at hst; cases hst
                · rw [updB_ne _ _ _ hc] at hst; exact ⟨hst, rfl⟩
              have H1 : ∀ g, okF base ok0 σ'.blk ρ' g → g < wt.heap.size → okF base ok0 (updB σ'.blk [(σ.clk, .dead)]) ρ' g ∧ wt.heap[g]? = wt.heap[g]? := fun g hg _ => ⟨⟨hg.1, fun b hl => by
                by_cases hc : b = σ.clk
                · rw [hc, updB_one] at hl; cases hl
                · rw [updB_ne _ _ _ hc] at hl; exact hg.2 b hl⟩, rfl⟩
              have hend : HS base w0 ok0 ⟨σ.tm, (σ.clk, .dead) :: σ'.bl, σ'.clk, σ'.orc⟩ ρ' a wt := by
                show HR base w0 ok0 (fun n => n < σ'.clk) σ.tm (DS.mk σ.tm ((σ.clk, .dead) :: σ'.bl) σ'.clk σ'.orc).blk ρ' a wt
                rw [hfin]
                refine HR.join (t := a.tmps) hs0 ?_
                refine HR.step h' (fun b => b = σ.clk) (fun b hc => updB_ne _ _ _ hc) (fun b _ => rfl) (fun b t cs _ _ => rfl) (fun b n x hc e => by rw [hc, hsv] at e; cases e)
                  (fun n hn => hn) (fun b hc => by show b < σ'.clk; rw [hc]; omega) (fun b n hc hn hst => H4 b n hn hst) (Nat.le_refl _) (fun _ _ _ => rfl)
                  (fun b hc hl => by rw [hc, updB_one] at hl; cases hl) (fun b b' hc _ hl => by rw [hc, updB_one] at hl; cases hl) rfl rfl rfl (fun _ _ b hc => ?_) (fun _ t => .inr ?_) hs.size rfl
                · rw [hc, updB_one]; exact hB.1
                · exact (hB.2.2 t).mono H1 (fun _ _ _ => rfl) (fun n hn => hn) H4
              have hdv := hv2.mono H1 (fun _ _ _ => rfl) (fun n hn => hn) H4
              rw [← hfin] at hdv
              cases e with
              | normal => exact ⟨Ds, hD1, hD2, hD3, v, by rw [hwt]; exact hv1, v, rfl, d, _, ρ', hk, by rw [hwt]; exact hend, by rw [hwt]; exact hdv⟩
              | ret => exact ⟨Ds, hD1, hD2, hD3, v, by rw [hwt]; exact hv1, v, rfl, d, _, ρ', hk, by rw [hwt]; exact hend, by rw [hwt]; exact hdv⟩
              | exit i => cases hex
              | goto i => cases hex
              | panic i => cases hex
              | outgrown => cases hex
          · exact hk.elim
        · exact hk.elim
/-- **A function's contract out of its run.** -/
theorem fn_run (hm : P.follows .mixedOrders = true) (n : Nat) {f : FuncId} {fn : Func} {c : Code} (hf : P.funcs[f]? = some fn) (hb : fn.body = some c) (hent : Ent P f) {args : List AV} {orc : Orc} {sh : Sh} {r : AV} (h : fnF P Γ ann n f fn c orc args sh r) : Fn P f args sh r :=
  fn_of_run hm (inF_ok hm n) (inF_fr n) hf hb hent h
end
end Go.Proofs.YtdlakpomcafemaaDoor
/- Plain values, reckoned. -/
namespace Go.Proofs.YtdlakpomcafemaaDoor
open Go.RowKit
set_option linter.unusedVariables false
section
variable {a b n : Int} {k k' : IntKind} {s t : ByteArray} {p q : Bool} {L M : List (List AV)} {cs vs : List AV} {i j m sz : Nat} {x y z : AV} {v : Value}
@[simp] theorem av_cel : AV.cel (.agg cs) j = cs.getD j default := rfl
@[simp] theorem av_prj : AV.prj (.tup vs) j = vs.getD j default := rfl
@[simp] theorem av_isAgg : AV.isAgg (.agg cs) m ↔ cs.length = m := ⟨fun ⟨_, e, h⟩ => by cases e; exact h, fun h => ⟨_, rfl, h⟩⟩
@[simp] theorem av_isTup : AV.isTup (.tup cs) m ↔ cs.length = m := ⟨fun ⟨_, e, h⟩ => by cases e; exact h, fun h => ⟨_, rfl, h⟩⟩
@[simp] theorem av_hasPart : hasPart (.tup cs) i ↔ i < cs.length := ⟨fun ⟨m, h, hi⟩ => by rw [av_isTup] at h; omega, fun h => ⟨_, av_isTup.2 rfl, h⟩⟩
@[simp] theorem av_isSl : AV.isSl (.sl i L) j ↔ i = j := ⟨fun h => by have h' : AV.sl i L = .sl j L := h; injection h', fun h => by subst h; rfl⟩
@[simp] theorem av_isInt : AV.isInt (.lit (.int k n)) ↔ True := ⟨fun _ => trivial, fun _ => ⟨_, _, rfl⟩⟩
@[simp] theorem av_isI64 : AV.isI64 (.lit (.int .i64 n)) ↔ True := ⟨fun _ => trivial, fun _ => rfl⟩
@[simp] theorem av_isBool : AV.isBool (.lit (.bool p)) ↔ True := ⟨fun _ => trivial, fun _ => rfl⟩
@[simp] theorem av_isStr : AV.isStr (.lit (.string s)) ↔ True := ⟨fun _ => trivial, fun _ => rfl⟩
@[simp] theorem av_isOne_int : AV.isOne (.lit (.int k n)) ↔ True := ⟨fun _ => trivial, fun _ => rfl⟩
@[simp] theorem av_isOne_bool : AV.isOne (.lit (.bool p)) ↔ True := ⟨fun _ => trivial, fun _ => rfl⟩
@[simp] theorem av_isOne_str : AV.isOne (.lit (.string s)) ↔ True := ⟨fun _ => trivial, fun _ => rfl⟩
@[simp] theorem av_isOne_ni : AV.isOne (.lit .nilIface) ↔ True := ⟨fun _ => trivial, fun _ => rfl⟩
@[simp] theorem av_isNI : AV.isNI (.lit .nilIface) ↔ True := ⟨fun _ => trivial, fun _ => rfl⟩
@[simp] theorem av_isOne_sl : AV.isOne (.sl i L) ↔ True := ⟨fun _ => trivial, fun _ => rfl⟩
@[simp] theorem av_len : AV.len (.sl i L) = .lit (.int .i64 (L.length : Nat)) := rfl
@[simp] theorem av_slen : AV.slen (.lit (.string s)) = .lit (.int .i64 (s.size : Nat)) := rfl
@[simp] theorem av_els : AV.els (.sl i L) = L := rfl
@[simp] theorem av_num : AV.num (.lit (.int k n)) = n := rfl
@[simp] theorem av_tru : AV.tru (.lit (.bool p)) = p := rfl
@[simp] theorem av_str : AV.str (.lit (.string s)) = s := rfl
@[simp] theorem av_kind : AV.kind (.lit (.int k n)) = k := rfl
@[simp] theorem av_mk : AV.mk i L = .sl i L := rfl
@[simp] theorem av_app : AV.app i (.sl j L) (.sl m M) = .sl i (L ++ M) := rfl
@[simp] theorem av_inb : AV.inb (.sl i L) (.lit (.int k n)) ↔ 0 ≤ n ∧ n < L.length := ⟨fun h => h.2, fun h => ⟨⟨_, _, rfl⟩, h⟩⟩
@[simp] theorem av_sinb : AV.sinb (.lit (.string s)) (.lit (.int k n)) ↔ 0 ≤ n ∧ n < s.size := ⟨fun h => h.2, fun h => ⟨⟨_, _, rfl⟩, h⟩⟩
@[simp] theorem av_at : AV.at (.sl i L) (.lit (.int k n)) j = gt2 L n.toNat j := rfl
@[simp] theorem av_subOk : AV.subOk (.sl i L) (.lit (.int k a)) (.lit (.int k' b)) ↔ 0 ≤ a ∧ a ≤ b ∧ b ≤ L.length := ⟨fun h => h.2.2, fun h => ⟨⟨_, _, rfl⟩, ⟨_, _, rfl⟩, h⟩⟩
@[simp] theorem av_sub : AV.sub i (.sl j L) (.lit (.int k a)) (.lit (.int k' b)) = .sl i ((L.take b.toNat).drop a.toNat) := rfl
@[simp] theorem av_binOk_int {op : BinOp} : AV.binOk op (.lit (.int k a)) (.lit (.int k' b)) ↔ k = k' ∧ (match op with | .quo | .rem => b ≠ 0 | .shl | .shr => False | _ => True) := Iff.rfl
@[simp] theorem av_add : AV.bin .add (.lit (.int k a)) (.lit (.int k' b)) = .lit (.int k (k.wrap (a + b))) := rfl
@[simp] theorem av_subt : AV.bin .sub (.lit (.int k a)) (.lit (.int k' b)) = .lit (.int k (k.wrap (a - b))) := rfl
@[simp] theorem av_mul : AV.bin .mul (.lit (.int k a)) (.lit (.int k' b)) = .lit (.int k (k.wrap (a * b))) := rfl
@[simp] theorem av_quo : AV.bin .quo (.lit (.int k a)) (.lit (.int k' b)) = .lit (.int k (k.wrap (a.tdiv b))) := rfl
@[simp] theorem av_rem : AV.bin .rem (.lit (.int k a)) (.lit (.int k' b)) = .lit (.int k (a.tmod b)) := rfl
@[simp] theorem av_eql : AV.bin .eql (.lit (.int k a)) (.lit (.int k' b)) = .lit (.bool (a == b)) := rfl
@[simp] theorem av_neq : AV.bin .neq (.lit (.int k a)) (.lit (.int k' b)) = .lit (.bool (a != b)) := rfl
@[simp] theorem av_lss : AV.bin .lss (.lit (.int k a)) (.lit (.int k' b)) = .lit (.bool (decide (a < b))) := rfl
@[simp] theorem av_leq : AV.bin .leq (.lit (.int k a)) (.lit (.int k' b)) = .lit (.bool (decide (a ≤ b))) := rfl
@[simp] theorem av_gtr : AV.bin .gtr (.lit (.int k a)) (.lit (.int k' b)) = .lit (.bool (decide (a > b))) := rfl
@[simp] theorem av_geq : AV.bin .geq (.lit (.int k a)) (.lit (.int k' b)) = .lit (.bool (decide (a ≥ b))) := rfl
@[simp] theorem av_mx : AV.mx (.lit (.int k a)) (.lit (.int k' b)) = .lit (.int k (if b > a then b else a)) := rfl
@[simp] theorem av_mn : AV.mn (.lit (.int k a)) (.lit (.int k' b)) = .lit (.int k (if b < a then b else a)) := rfl
@[simp] theorem av_isT : isT (.lit (.bool p)) ↔ p = true := Iff.rfl
@[simp] theorem av_isF : isF (.lit (.bool p)) ↔ p = false := Iff.rfl
@[simp] theorem av_flat : AV.flat (.lit v) ↔ True := ⟨fun _ => trivial, fun _ => .lit v⟩
@[simp] theorem av_flat_nil : AV.flat (.sl i []) ↔ True := ⟨fun _ => trivial, fun _ => .nil i⟩
@[simp] theorem av_flat_agg : AV.flat (.agg cs) ↔ ∀ x ∈ cs, x.flat := ⟨fun h => by cases h with | agg _ h => exact h, fun h => .agg cs h⟩
@[simp] theorem av_flatS : AV.flatS (.sl i L) ↔ ∀ y ∈ L, ∀ z ∈ y, z.flat := Iff.rfl
@[simp] theorem f_same : fSame x y ↔ x = y := Iff.rfl
@[simp] theorem f_ent {P : Program} {f : FuncId} : fEnt P f ↔ Ent P f := Iff.rfl
@[simp] theorem f_nil {F G : Prop} : fNil (.sl i L) F G ↔ (L = [] → F) ∧ G := ⟨fun h => h.elim (fun q => q.2) (fun q => by cases q.1), fun h => .inl ⟨⟨_, _, rfl⟩, h⟩⟩
@[simp] theorem f_nil_lit {F G : Prop} : fNil (.lit (.slice none 0 0)) F G ↔ F := ⟨fun h => h.elim (fun q => by obtain ⟨_, _, e⟩ := q.1; cases e) (fun q => q.2), fun h => .inr ⟨rfl, h⟩⟩
@[simp] theorem f_allV {p : Prop} : fAllV (fun _ => p) ↔ p := ⟨fun h => h #[], fun h _ => h⟩
/-- A loop, by what it carries. -/
theorem loop_of {τ : Type} (enc : τ → List AV) (Inv : τ → Prop) (μ : τ → Nat) {xs : List AV} {body : List AV → (List AV → Prop) → Prop} (x0 : τ) (h0 : xs = enc x0) (hI : Inv x0) (hb : ∀ x, Inv x → body (enc x) fun zs => ∃ m', m' < μ x ∧ ∃ y, zs = enc y ∧ Inv y ∧ μ y = m') : fLoop i xs body := by
  subst h0
  refine ⟨fun m ys => ∃ y, ys = enc y ∧ Inv y ∧ μ y = m, μ x0, ⟨x0, rfl, hI, rfl⟩, ?_⟩
  rintro m ys _ ⟨y, rfl, hy, rfl⟩
  exact hb y hy
theorem wrap64 (h1 : -9223372036854775808 ≤ a) (h2 : a ≤ 9223372036854775807) : IntKind.i64.wrap a = a := by
  simp [IntKind.wrap, IntKind.bits, IntKind.signed]; omega
end
theorem mixed : Tryd.prog.follows .mixedOrders = true := by kernel_rfl
end Go.Proofs.YtdlakpomcafemaaDoor
/- What every law's proof closes with. -/
namespace Go.Proofs.YtdlakpomcafemaaDoor
open Go.ChangeShapes Go.WideShapes Go.ChangeAt Go.RowKit

theorem own : ownKnob Tryd.prog.godebug = none := by kernel_rfl
theorem laidOut : laidOutB Tryd.prog = true := by kernel_rfl


theorem law_end {H : Type} {enc : TypeId × Value → H} {f : Func} {s : ChangeSpec} {W W' : World} {args : Array Value} {ds gs : List (DataW H)} {before : List MemPlace} {e : Ending}
    (hts : (f.params.toList.all fun t => Tryd.prog.readableRec t && decide (t < Tryd.prog.types.size)) = true) (hres : f.resultTypes = #[4]) (hv : s.vars = [])
    (hW : DataW.Whole enc Tryd.prog f.params.toList s.vars false W args.toList ds gs before) (h1 : (s.fn H (ds ++ gs)).results = [.lit (.bool true)]) (h2 : (s.fn H (ds ++ gs)).args = ds) (h3 : (s.fn H (ds ++ gs)).vars = [])
    (hr : Ret (.bool true) W e W') : ∃ v, e = .returned v ∧ s.post enc Tryd.prog f false true false false W args v W' := by
  refine ⟨_, hr.1, law_post laidOut (fun t ht => ?_) hres Tryd.underlying4 hv hW h1 h2 h3 hr.below⟩
  have := List.all_eq_true.1 hts t ht
  simp only [Bool.and_eq_true, decide_eq_true_eq] at this
  exact this
end Go.Proofs.YtdlakpomcafemaaDoor
/- Arguments, opened: whatever their types, as plain values; and a law's last step. -/
namespace Go.Proofs.YtdlakpomcafemaaDoor
open Go.ChangeShapes Go.WideShapes Go.ChangeAt Go.RowKit Go.Deep
set_option linter.unusedVariables false
/-! ### the cells of a type -/
def flatFs (P : Program) (fl : TypeId → Option (List TypeId)) : Nat → List Field → Option (List TypeId)
  | _, [] => some []
  | o, f :: fs => if f.offset = o then (match fl f.type, flatFs P fl (o + P.cellsOf f.type) fs with
      | some a, some b => if a.length = P.cellsOf f.type then some (a ++ b) else none
      | _, _ => none) else none
def flatTy (P : Program) : Nat → TypeId → Option (List TypeId)
  | 0, _ => none
  | d + 1, t => match P.underlying t with
    | some (.int _) => some [t]
    | some .string => some [t]
    | some .bool => some [t]
    | some (.slice _) => some [t]
    | some (.struct fs) => match flatFs P (flatTy P d) 0 fs.toList with
        | some l => if l.length = P.cellsOf t then some l else none
        | none => none
    | some (.array n e) => match flatTy P d e with
        | some l => if l.length = P.cellsOf e ∧ n * l.length = P.cellsOf t then some (List.replicate n l).flatten else none
        | none => none
    | _ => none
def CellOk (P : Program) : Nat → TypeId → AV → Prop
  | 0, _, _ => False
  | d + 1, u, x => match P.underlying u with
    | some (.int k) => ∃ n, x = .lit (.int k n) ∧ (Lit.int k n).wf = true
    | some .string => ∃ s : ByteArray, x = .string s ∧ s.size ≤ maxLen
    | some .bool => ∃ b, x = .bool b
    | some (.slice e) => ∃ (L : List (List AV)) (tys : List TypeId), x = .sl (P.cellsOf e) L ∧ L.length ≤ maxLen ∧ flatTy P 8 e = some tys ∧ ∀ y ∈ L, y.length = tys.length ∧ ∀ i u', tys[i]? = some u' → CellOk P d u' (y.getD i default)
    | _ => False
def cellB (P : Program) : Nat → TypeId → Bool
  | 0, _ => false
  | d + 1, u => match P.underlying u with
    | some (.int _) => true
    | some .string => true
    | some .bool => true
    | some (.slice e) => match flatTy P 8 e with
      | some tys => decide (tys.length = P.cellsOf e) && decide (0 < P.cellsOf e) && tys.all (cellB P d)
      | none => false
    | _ => false
section
variable {H : Type} {enc : TypeId × Value → H} {P : Program} {W : World}
theorem fields_of {t : TypeId} {fs : Array Field} {fuel : Nat} {cs : List Value} {x : DataW H × List MemPlace}
    (ht : P.underlying t = some (.struct fs)) (h : DataW.trod enc P W 0 (fun _ => true) true fuel t cs = some x) :
    cs.length = P.cellsOf t ∧ ∃ m, ∀ f ∈ fs.toList, ∃ y, DataW.trod enc P W 0 (fun _ => true) true m f.type ((cs.drop f.offset).take (P.cellsOf f.type)) = some y := by
  obtain ⟨ys, m, _, _, hl, hyl, hf⟩ := DataW.trod_struct ht h
  refine ⟨hl, m, fun f hm => ?_⟩
  obtain ⟨j, hj, e⟩ := List.getElem_of_mem hm
  have hj' : fs[j]? = some f := by rw [← Array.getElem?_toList, List.getElem?_eq_getElem hj, e]
  have hjl : j < ys.length := by rw [hyl]; simpa using hj
  exact ⟨_, (hf j f hj').trans (List.getElem?_eq_getElem hjl)⟩
theorem flatten_get {l : List TypeId} {u : TypeId} : ∀ (n i : Nat), ((List.replicate n l).flatten)[i]? = some u → ∃ k j, k < n ∧ j < l.length ∧ i = k * l.length + j ∧ l[j]? = some u
  | 0, i, h => by simp at h
  | n + 1, i, h => by
    rw [List.replicate_succ, List.flatten_cons, List.getElem?_append] at h
    split at h
    · rename_i hi; exact ⟨0, i, by omega, hi, by omega, h⟩
    · obtain ⟨k, j, hk, hj, e, hl⟩ := flatten_get n _ h
      exact ⟨k + 1, j, by omega, hj, by rw [Nat.add_mul]; omega, hl⟩
theorem seg_at {cs : List Value} {o n i : Nat} {v : Value} (h : ((cs.drop o).take n)[i]? = some v) : cs[o + i]? = some v := by
  rw [List.getElem?_take] at h
  split at h
  · rwa [List.getElem?_drop] at h
  · cases h
theorem flatten_len {l : List TypeId} : ∀ n, ((List.replicate n l).flatten).length = n * l.length
  | 0 => by simp
  | n + 1 => by simp
theorem trod_flat : ∀ (d : Nat) (t : TypeId) (tys : List TypeId), flatTy P d t = some tys → ∀ (fuel : Nat) (vs : List Value) (x : DataW H × List MemPlace), DataW.trod enc P W 0 (fun _ => true) true fuel t vs = some x →
    vs.length = tys.length ∧ ∀ (i : Nat) (u : TypeId), tys[i]? = some u → ∃ v m y, vs[i]? = some v ∧ DataW.trod enc P W 0 (fun _ => true) true m u [v] = some y
  | 0, t, tys, h, _, _, _, _ => by cases h
  | d + 1, t, tys, h, fuel, vs, x, hx => by
    simp only [flatTy] at h
    have one : ∀ v, vs = [v] → some [t] = some tys → vs.length = tys.length ∧ ∀ (i : Nat) (u : TypeId), tys[i]? = some u → ∃ v m y, vs[i]? = some v ∧ DataW.trod enc P W 0 (fun _ => true) true m u [v] = some y := by
      rintro v rfl e
      injection e with e; subst e
      refine ⟨rfl, fun i u hi => ?_⟩
      cases i with
      | zero => simp at hi; subst hi; exact ⟨v, fuel, x, rfl, hx⟩
      | succ i => simp at hi
    split at h
    · rename_i k hu; obtain ⟨n, e, _⟩ := DataW.trod_int hu hx; exact one _ e h
    · rename_i hu; obtain ⟨n, e, _⟩ := DataW.trod_string hu hx; exact one _ e h
    · rename_i hu; obtain ⟨n, e, _⟩ := DataW.trod_bool hu hx; exact one _ e h
    · rename_i e hu
      rcases open_slice hu hx with ⟨e, _⟩ | ⟨a, len, cap, m, fu, D, Pl, e, _⟩
      · exact one _ e h
      · exact one _ e h
    · rename_i fs hu
      split at h
      · rename_i l hl
        split at h
        · rename_i hlen
          injection h with h; subst h
          obtain ⟨hvl, m, hf⟩ := fields_of hu hx
          refine ⟨by omega, ?_⟩
          clear hlen hvl hx
          have key : ∀ (fs : List Field) (o : Nat) (l : List TypeId), flatFs P (flatTy P d) o fs = some l → (∀ f ∈ fs, ∃ y, DataW.trod enc P W 0 (fun _ => true) true m f.type ((vs.drop f.offset).take (P.cellsOf f.type)) = some y) →
              ∀ (i : Nat) (u : TypeId), l[i]? = some u → ∃ v m y, vs[o + i]? = some v ∧ DataW.trod enc P W 0 (fun _ => true) true m u [v] = some y := by
            intro fs
            induction fs with
            | nil => intro o l hl _ i u hi; simp only [flatFs, Option.some.injEq] at hl; subst hl; simp at hi
            | cons f fs ih =>
              intro o l hl hf i u hi
              simp only [flatFs] at hl
              split at hl
              · rename_i ho
                split at hl
                · rename_i a b ha hb
                  split at hl
                  · rename_i hal
                    injection hl with hl; subst hl
                    rw [List.getElem?_append] at hi
                    split at hi
                    · obtain ⟨y, hy⟩ := hf f (by simp)
                      obtain ⟨_, hg⟩ := trod_flat d f.type a ha m _ _ hy
                      obtain ⟨v, m', y', hv, hy'⟩ := hg i u hi
                      exact ⟨v, m', y', ho ▸ seg_at hv, hy'⟩
                    · obtain ⟨v, m', y', hv, hy'⟩ := ih _ _ hb (fun f hf' => hf f (by simp [hf'])) _ _ hi
                      refine ⟨v, m', y', ?_, hy'⟩
                      rw [← hv]; congr 1; omega
                  · cases hl
                · cases hl
              · cases hl
          intro i u hi
          have := key fs.toList 0 l hl hf i u hi
          simpa using this
        · cases h
      · cases h
    · rename_i n e hu
      split at h
      · rename_i l hl
        split at h
        · rename_i hlen
          injection h with h; subst h
          obtain ⟨xs, m, _, _, hvl, hxl, hf⟩ := DataW.trod_array hu hx
          refine ⟨by rw [hvl, flatten_len]; omega, fun i u hi => ?_⟩
          obtain ⟨k, j, hk, hj, rfl, hu'⟩ := flatten_get n i hi
          have h1 := hf k hk
          rw [List.getElem?_eq_getElem (by omega)] at h1
          obtain ⟨_, hg⟩ := trod_flat d e l hl m _ _ h1
          obtain ⟨v, m', y', hv, hy'⟩ := hg j u hu'
          exact ⟨v, m', y', by rw [hlen.1]; exact seg_at hv, hy'⟩
        · cases h
      · cases h
    · cases h
def okAll (W : World) (g : Nat) : Prop := g < W.heap.size
theorem add_none' (b off : Nat) (k : Nat) : (⟨b, off, none⟩ : Addr).add k = ⟨b, off + k, none⟩ := by simp [Addr.add]
theorem cell_open : ∀ (d : Nat) (u : TypeId), cellB P d u = true → ∀ (m : Nat) (v : Value) (y : DataW H × List MemPlace), DataW.trod enc P W 0 (fun _ => true) true m u [v] = some y →
    v.oneCell' = true ∧ ∃ x, CellOk P d u x ∧ RV W (okAll W) x v
  | 0, u, h, _, _, _, _ => by cases h
  | d + 1, u, h, m, v, y, hy => by
    simp only [cellB] at h
    simp only [CellOk]
    split at h
    · rename_i k hu
      obtain ⟨n, e, _, hw⟩ := DataW.trod_int hu hy
      simp only [List.cons.injEq, and_true] at e
      subst e
      exact ⟨rfl, _, ⟨n, rfl, hw⟩, .lit _⟩
    · rename_i hu
      obtain ⟨n, e, _, hw⟩ := DataW.trod_string hu hy
      simp only [List.cons.injEq, and_true] at e
      subst e
      exact ⟨rfl, _, ⟨n, rfl, hw⟩, .lit _⟩
    · rename_i hu
      obtain ⟨n, e, _⟩ := DataW.trod_bool hu hy
      simp only [List.cons.injEq, and_true] at e
      subst e
      exact ⟨rfl, _, ⟨n, rfl⟩, .lit _⟩
    · rename_i e hu
      split at h
      · rename_i tys htys
        simp only [Bool.and_eq_true, decide_eq_true_eq, List.all_eq_true] at h
        obtain ⟨⟨hl, hpos⟩, hall⟩ := h
        rcases open_slice hu hy with ⟨ev, _⟩ | ⟨a, len, cap, m', fu, D, Pl, ev, hb, hlc, hcm, hmm, hx, hi⟩
        · simp only [List.cons.injEq, and_true] at ev
          subst ev
          exact ⟨rfl, _, ⟨[], tys, rfl, by unfold maxLen; simp, htys, fun y hy => by simp at hy⟩, rv_nil _ _⟩
        · simp only [List.cons.injEq, and_true] at ev
          subst ev
          simp only [if_true] at hmm
          have key : ∀ i, ∃ (Y : List AV) (us : Nat → Value), i < len → (Y.length = tys.length ∧ (∀ j u', tys[j]? = some u' → CellOk P d u' (Y.getD j default)) ∧ ∀ j, j < P.cellsOf e → W.cell? (a.add (i * P.cellsOf e + j)) = some (us j) ∧ (us j).oneCell' = true ∧ RV W (okAll W) (Y.getD j default) (us j)) := by
            intro i
            by_cases hlt : i < len
            · obtain ⟨cs', hc, ht'⟩ := hi i (by omega)
              obtain ⟨_, hcl, hat⟩ := World.cells?_some hc
              obtain ⟨q1, q2⟩ := trod_flat 8 e tys htys fu cs' _ ht'
              have step : ∀ j, ∃ (X : AV) (uv : Value), j < tys.length → ((∀ u', tys[j]? = some u' → CellOk P d u' X) ∧ cs'[j]? = some uv ∧ uv.oneCell' = true ∧ RV W (okAll W) X uv) := by
                intro j
                by_cases hj : j < tys.length
                · obtain ⟨v, m2, y2, hv, hy2⟩ := q2 j _ (List.getElem?_eq_getElem hj)
                  obtain ⟨o1, X, hX, hR⟩ := cell_open d tys[j] (hall _ (List.getElem_mem hj)) m2 v y2 hy2
                  exact ⟨X, v, fun _ => ⟨fun u' hu' => by rw [List.getElem?_eq_getElem hj] at hu'; injection hu' with hu'; subst hu'; exact hX, hv, o1, hR⟩⟩
                · exact ⟨default, undef, fun h => absurd h hj⟩
              obtain ⟨fx, step⟩ := Classical.skolem.1 step
              obtain ⟨fv, step⟩ := Classical.skolem.1 step
              refine ⟨(List.range tys.length).map fx, fv, fun _ => ⟨by simp, fun j u' hj => ?_, fun j hj => ?_⟩⟩
              · have hjl : j < tys.length := (List.getElem?_eq_some_iff.1 hj).1
                have := (step j hjl).1 u' hj
                simpa [hjl] using this
              · have hjl : j < tys.length := by omega
                obtain ⟨_, s2, s3, s4⟩ := step j hjl
                refine ⟨?_, s3, by simpa [hjl] using s4⟩
                rw [← Go.Deep.add_add, hat j hj, s2]
            · exact ⟨[], fun _ => undef, fun h => absurd h hlt⟩
          obtain ⟨Y, key⟩ := Classical.skolem.1 key
          obtain ⟨us, key⟩ := Classical.skolem.1 key
          refine ⟨rfl, .sl (P.cellsOf e) ((List.range len).map Y), ⟨_, tys, rfl, by simp; omega, htys, fun y hy => ?_⟩, ?_⟩
          · obtain ⟨i, hi', rfl⟩ := List.mem_map.1 hy
            have := key i (by simpa using hi')
            exact ⟨this.1, this.2.1⟩
          · obtain ⟨b, off, spot⟩ := a
            refine .sl _ _ _ len cap us (by simp) hlc hcm (fun x hx' => ?_) (fun h0 => ?_) (fun i j hi' hj => ((key i hi').2.2 j hj).2.1) (fun i j hi' hj => ?_)
            · obtain ⟨i, hi', rfl⟩ := List.mem_map.1 hx'
              have := key i (by simpa using hi')
              omega
            · have c0 := ((key 0 h0).2.2 0 hpos).1
              have hspot : spot = none := by simpa [Addr.add] using World.cell?_spot c0
              subst hspot
              have hlt : b < W.heap.size := by
                rw [add_none'] at c0
                exact block_lt_of_cell c0
              refine ⟨b, off, rfl, hlt, hlt, fun i j hi' hj => ?_⟩
              have := ((key i hi').2.2 j hj).1
              rw [add_none'] at this
              rw [← this]
              congr 2
              omega
            · have := ((key i hi').2.2 j hj).2.2
              simpa [gt2, hi'] using this
      · cases h
    · cases h
/-- What an argument of type t may be. -/
def ArgOk (P : Program) (t : TypeId) (x : AV) : Prop :=
  match isAggT P t with
  | true => ∃ (cs : List AV) (tys : List TypeId), x = .agg cs ∧ flatTy P 8 t = some tys ∧ cs.length = tys.length ∧ ∀ i u, tys[i]? = some u → CellOk P 8 u (cs.getD i default)
  | false => CellOk P 8 t x
def argB (P : Program) (t : TypeId) : Bool :=
  match isAggT P t with
  | true => match flatTy P 8 t with
    | some tys => tys.all (cellB P 8)
    | none => false
  | false => cellB P 8 t
theorem arg_open {t : TypeId} {v : Value} {base : Nat} {dd : DataW H} {p : List MemPlace} (hb : argB P t = true) (hv : Value.okWide P W .any base t v) (h : DataW.Trod enc P W 0 (fun _ => true) true t v dd p) : ∃ x, ArgOk P t x ∧ RV W (okAll W) x v := by
  obtain ⟨fuel, hf⟩ := h
  unfold argB at hb
  unfold ArgOk
  split at hb
  · rename_i ha
    split at hb
    · rename_i tys htys
      have hagg : ∃ cs, v = .agg cs := by
        unfold isAggT at ha
        split at ha
        · rename_i hu; simp only [Value.okWide, hu] at hv; obtain ⟨cs, e, _⟩ := hv; exact ⟨cs, e⟩
        · rename_i hu; simp only [Value.okWide, hu] at hv; obtain ⟨cs, e, _⟩ := hv; exact ⟨cs, e⟩
        · cases ha
      obtain ⟨vs, rfl⟩ := hagg
      obtain ⟨q1, q2⟩ := trod_flat 8 t tys htys fuel _ _ hf
      have q1 : vs.size = tys.length := by simpa [Value.cells] using q1
      have step : ∀ j, ∃ (X : AV), j < tys.length → ((∀ u', tys[j]? = some u' → CellOk P 8 u' X) ∧ (vs.getD j undef).oneCell' = true ∧ RV W (okAll W) X (vs.getD j undef)) := by
        intro j
        by_cases hj : j < tys.length
        · obtain ⟨v, m2, y2, hv, hy2⟩ := q2 j _ (List.getElem?_eq_getElem hj)
          obtain ⟨o1, X, hX, hR⟩ := cell_open 8 tys[j] (List.all_eq_true.1 hb _ (List.getElem_mem hj)) m2 v y2 hy2
          have e : vs.getD j undef = v := by
            have hv' : vs[j]? = some v := by simpa [Value.cells] using hv
            rw [Array.getD_eq_getD_getElem?, hv']; rfl
          rw [e]
          exact ⟨X, fun _ => ⟨fun u' hu' => by rw [List.getElem?_eq_getElem hj] at hu'; injection hu' with hu'; subst hu'; exact hX, o1, hR⟩⟩
        · exact ⟨default, fun h => absurd h hj⟩
      obtain ⟨fx, step⟩ := Classical.skolem.1 step
      refine ⟨.agg ((List.range tys.length).map fx), ⟨_, tys, rfl, htys, by simp, fun j u' hj => ?_⟩, ?_⟩
      · have hjl : j < tys.length := (List.getElem?_eq_some_iff.1 hj).1
        have := (step j hjl).1 u' hj
        simpa [hjl] using this
      · refine .agg _ _ (by simp [q1]) (fun i hi => ?_) (fun i hi => ?_)
        · exact (step i (by simpa using hi)).2.1
        · have hi' : i < tys.length := by simpa using hi
          have := (step i hi').2.2
          simpa [hi'] using this
    · cases hb
  · rename_i ha
    have h1 : v.cells.toList = [v] := by
      cases v with
      | agg cs =>
        exfalso
        simp only [cellB] at hb
        split at hb
        · rename_i hu; obtain ⟨_, e⟩ := okWide_int hu hv; cases e
        · rename_i hu; obtain ⟨_, e⟩ := okWide_string hu hv; cases e
        · rename_i hu; obtain ⟨_, e⟩ := okWide_bool hu hv; cases e
        · rename_i hu; obtain ⟨_, _, _, e⟩ := okWide_slice hu hv; cases e
        · cases hb
      | _ => rfl
    rw [h1] at hf
    exact (cell_open 8 t hb fuel v _ hf).2
theorem args_open {base : Nat} : ∀ (ts : List TypeId) (vs : List Value) (ds : List (DataW H)) (p : List MemPlace), DataW.TrodAll enc P W 0 (fun _ => true) true ts vs ds p →
    (∀ (j : Nat) t v, ts[j]? = some t → vs[j]? = some v → Value.okWide P W .any base t v) → ts.all (argB P) = true →
    ∃ xs : List AV, xs.length = ts.length ∧ vs.length = ts.length ∧ ∀ i, i < ts.length → ArgOk P (ts.getD i 0) (xs.getD i default) ∧ RV W (okAll W) (xs.getD i default) (vs.getD i undef)
  | [], vs, ds, p, h, _, _ => by
    obtain ⟨rfl, _, _⟩ := trodAll_nil h
    exact ⟨[], rfl, rfl, fun i hi => by simp at hi⟩
  | t :: ts, vs, ds, p, h, hv, hb => by
    obtain ⟨v, vs', d, ds', p', q, rfl, rfl, rfl, h1, h2⟩ := trodAll_cons h
    rw [List.all_cons, Bool.and_eq_true] at hb
    obtain ⟨x, hx, hr⟩ := arg_open hb.1 (hv 0 t v rfl rfl) h1
    obtain ⟨xs, l1, l2, hxs⟩ := args_open ts vs' ds' q h2 (fun j t v h3 h4 => hv (j + 1) t v (by simpa using h3) (by simpa using h4)) hb.2
    refine ⟨x :: xs, by simp [l1], by simp [l2], fun i hi => ?_⟩
    cases i with
    | zero => exact ⟨hx, hr⟩
    | succ i => simpa using hxs i (by simpa using hi)
/-! ### what is known of an opened value -/
theorem cell_int {d : Nat} {u : TypeId} {k : IntKind} {x : AV} (hu : P.underlying u = some (.int k)) (h : CellOk P (d + 1) u x) : ∃ n, x = .lit (.int k n) ∧ (Lit.int k n).wf = true := by
  simpa only [CellOk, hu] using h
theorem cell_str {d : Nat} {u : TypeId} {x : AV} (hu : P.underlying u = some .string) (h : CellOk P (d + 1) u x) : ∃ s : ByteArray, x = .string s ∧ s.size ≤ maxLen := by
  simpa only [CellOk, hu] using h
theorem cell_sl {d : Nat} {u e : TypeId} {x : AV} {tys : List TypeId} {s : Nat} (hu : P.underlying u = some (.slice e)) (ht : flatTy P 8 e = some tys) (hs : P.cellsOf e = s) (h : CellOk P (d + 1) u x) :
    ∃ L : List (List AV), x = .sl s L ∧ L.length ≤ maxLen ∧ ∀ y ∈ L, y.length = tys.length ∧ ∀ i u', tys[i]? = some u' → CellOk P d u' (y.getD i default) := by
  simp only [CellOk, hu] at h
  obtain ⟨L, tys', e1, h1, h2, h3⟩ := h
  rw [ht] at h2
  injection h2 with h2
  subst h2 hs
  exact ⟨L, e1, h1, h3⟩
theorem arg_cell {t : TypeId} {x : AV} (hi : isAggT P t = false) (h : ArgOk P t x) : CellOk P 8 t x := by
  unfold ArgOk at h; rwa [hi] at h
theorem arg_agg {t : TypeId} {x : AV} {tys : List TypeId} (hi : isAggT P t = true) (ht : flatTy P 8 t = some tys) (h : ArgOk P t x) : ∃ cs : List AV, x = .agg cs ∧ cs.length = tys.length ∧ ∀ i u, tys[i]? = some u → CellOk P 8 u (cs.getD i default) := by
  unfold ArgOk at h; rw [hi] at h
  obtain ⟨cs, tys', e1, h2, h3, h4⟩ := h
  rw [ht] at h2
  injection h2 with h2
  subst h2
  exact ⟨cs, e1, h3, h4⟩
theorem list_dec {α : Type} {encA : α → List AV} {Q : α → Prop} : ∀ {L : List (List AV)}, (∀ y ∈ L, ∃ a, y = encA a ∧ Q a) → ∃ l : List α, L = l.map encA ∧ ∀ a ∈ l, Q a
  | [], _ => ⟨[], rfl, fun a ha => by simp at ha⟩
  | y :: L, h => by
    obtain ⟨a, e, hq⟩ := h y (by simp)
    obtain ⟨l, e2, hl⟩ := list_dec (L := L) fun y hy => h y (by simp [hy])
    exact ⟨a :: l, by rw [e, e2]; rfl, fun b hb => by exact (List.mem_cons.1 hb).elim (fun e => e ▸ hq) (fun hb => hl b hb)⟩
end
end Go.Proofs.YtdlakpomcafemaaDoor
/- Lists as plain values; loops over a list. -/
namespace Go.Proofs.YtdlakpomcafemaaDoor
open Go.RowKit
set_option linter.unusedVariables false
/-- A slice whose elements are those of a list, each by its cells. -/
def lst {α : Type} (s : Nat) (enc : α → List AV) (l : List α) : AV := .sl s (l.map enc)
section
variable {α : Type} {s i j m : Nat} {enc : α → List AV} {l l' : List α} {k k' : IntKind} {a b n : Int} {x : α} {y z : AV} {F G : Prop}
@[simp] theorem lst_els : AV.els (lst s enc l) = l.map enc := rfl
@[simp] theorem lst_len : AV.len (lst s enc l) = .lit (.int .i64 (l.length : Nat)) := by simp [lst]
@[simp] theorem lst_isSl : AV.isSl (lst s enc l) j ↔ s = j := by simp [lst]
@[simp] theorem lst_isOne : AV.isOne (lst s enc l) ↔ True := by simp [lst]
@[simp] theorem lst_inb : AV.inb (lst s enc l) (.lit (.int k n)) ↔ 0 ≤ n ∧ n < l.length := by simp [lst]
@[simp] theorem lst_subOk : AV.subOk (lst s enc l) (.lit (.int k a)) (.lit (.int k' b)) ↔ 0 ≤ a ∧ a ≤ b ∧ b ≤ l.length := by simp [lst]
@[simp] theorem lst_sub : AV.sub i (lst i enc l) (.lit (.int k a)) (.lit (.int k' b)) = lst i enc ((l.take b.toNat).drop a.toNat) := by simp [lst, List.map_drop, List.map_take]
@[simp] theorem lst_app : AV.app i (lst j enc l) (lst m enc l') = lst i enc (l ++ l') := by simp [lst]
@[simp] theorem lst_nil : lst s enc [] = .sl s [] := rfl
@[simp] theorem lst_fnil : fNil (lst s enc l) F G ↔ (l = [] → F) ∧ G := by unfold lst; simp
theorem lst_at {n : Nat} (h : l[n]? = some x) : AV.at (lst s enc l) (.lit (.int k (n : Nat))) j = (enc x).getD j default := by
  simp [lst, gt2, List.getD_eq_getElem?_getD, h]
theorem lst_atAgg {n : Nat} (h : l[n]? = some x) : AV.atAgg (lst s enc l) (.lit (.int k (n : Nat))) j m = .agg (((enc x).drop j).take m) := by
  simp [lst, AV.atAgg, List.getD_eq_getElem?_getD, h]
theorem lst_atI (hn : 0 ≤ n) (h : l[n.toNat]? = some x) : AV.at (lst s enc l) (.lit (.int k n)) j = (enc x).getD j default := by
  simp [lst, gt2, List.getD_eq_getElem?_getD, h]
theorem lst_atAggI (hn : 0 ≤ n) (h : l[n.toNat]? = some x) : AV.atAgg (lst s enc l) (.lit (.int k n)) j m = .agg (((enc x).drop j).take m) := by
  simp [lst, AV.atAgg, List.getD_eq_getElem?_getD, h]
theorem lst_flatS (h : ∀ x ∈ l, ∀ z ∈ enc x, z.flat) : (lst s enc l).flatS := by
  intro y hy z hz
  simp only [lst_els, List.mem_map] at hy
  obtain ⟨x, hx, rfl⟩ := hy
  exact h x hx z hz
theorem lst_setEl {n : Nat} {x' : α} {cs : List AV} (h : l[n]? = some x) (he : (enc x).take j ++ cs ++ (enc x).drop (j + cs.length) = enc x') : AV.setEl (lst s enc l) (.lit (.int k (n : Nat))) j cs = lst s enc (l.set n x') := by
  simp only [lst, AV.setEl, av_num, Int.toNat_natCast]
  congr 1
  rw [List.map_set, ← he]
  simp [List.getD_eq_getElem?_getD, h]
end
/-- **A loop over a list** that it reads from its head on. -/
theorem loop_list {α σ : Type} {i : Nat} (l : List α) (enc : Nat → σ → List AV) (G : Nat → List α → σ → Prop) {xs : List AV} {body : List AV → (List AV → Prop) → Prop} (s0 : σ) (h0 : xs = enc 0 s0) (hG : G 0 l s0)
    (hstep : ∀ n x rest s (K : List AV → Prop), l[n]? = some x → l.drop (n + 1) = rest → n < l.length → G n (x :: rest) s → (∀ zs s', zs = enc (n + 1) s' → G (n + 1) rest s' → K zs) → body (enc n s) K)
    (hend : ∀ s (K : List AV → Prop), G l.length [] s → body (enc l.length s) K) : fLoop i xs body := by
  subst h0
  refine ⟨fun m ys => ∃ n s, ys = enc n s ∧ n ≤ l.length ∧ m = l.length - n ∧ G n (l.drop n) s, l.length, ⟨0, s0, rfl, Nat.zero_le _, rfl, hG⟩, ?_⟩
  rintro m ys _ ⟨n, s, rfl, hn, rfl, hg⟩
  rcases Nat.lt_or_ge n l.length with h | h
  · rw [List.drop_eq_getElem_cons h] at hg
    refine hstep n l[n] (l.drop (n + 1)) s _ (List.getElem?_eq_getElem h) rfl h hg ?_
    rintro zs s' rfl hg'
    exact ⟨l.length - (n + 1), by omega, n + 1, s', rfl, h, rfl, hg'⟩
  · obtain rfl : n = l.length := by omega
    rw [List.drop_length] at hg
    exact hend s _ hg
/-- Strings. -/
theorem bytes_eq {a b : ByteArray} : (a.toList == b.toList) = decide (a = b) := by
  by_cases h : a = b
  · subst h; simp
  · rw [decide_eq_false h]
    simp only [beq_eq_false_iff_ne, ne_eq]
    intro e
    apply h
    rw [ByteArray.toList_eq, ByteArray.toList_eq] at e
    exact ByteArray.ext (Array.toList_inj.1 e)
theorem less_eq : ∀ (x y : List UInt8), Op.bytesLess x y = decide (x < y)
  | [], [] => by simp [Op.bytesLess]
  | _ :: _, [] => by simp [Op.bytesLess]
  | [], _ :: _ => by simp [Op.bytesLess]
  | a :: x, b :: y => by
    rw [Op.bytesLess, less_eq x y]
    simp only [List.cons_lt_cons_iff]
    by_cases h1 : a < b <;> by_cases h2 : a = b <;> by_cases h3 : x < y <;> simp [h1, h2, h3]
section
variable {a b : ByteArray}
@[simp] theorem av_eql_str : AV.bin .eql (.lit (.string a)) (.lit (.string b)) = .lit (.bool (decide (a = b))) := by
  show AV.bool (a.toList == b.toList) = _; rw [bytes_eq]
@[simp] theorem av_neq_str : AV.bin .neq (.lit (.string a)) (.lit (.string b)) = .lit (.bool (!decide (a = b))) := by
  show AV.bool (!(a.toList == b.toList)) = _; rw [bytes_eq]
@[simp] theorem av_binOk_eqs : AV.binOk .eql (.lit (.string a)) (.lit (.string b)) ↔ True := Iff.rfl
@[simp] theorem av_binOk_nes : AV.binOk .neq (.lit (.string a)) (.lit (.string b)) ↔ True := Iff.rfl
@[simp] theorem av_binOk_lss : AV.binOk .lss (.lit (.string a)) (.lit (.string b)) ↔ True := Iff.rfl
@[simp] theorem av_binOk_leqs : AV.binOk .leq (.lit (.string a)) (.lit (.string b)) ↔ True := Iff.rfl
@[simp] theorem av_binOk_gts : AV.binOk .gtr (.lit (.string a)) (.lit (.string b)) ↔ True := Iff.rfl
@[simp] theorem av_binOk_ges : AV.binOk .geq (.lit (.string a)) (.lit (.string b)) ↔ True := Iff.rfl
/-- The order of strings: that of their bytes. -/
def key (a : ByteArray) : List UInt8 := a.data.toList
theorem lsle_eq : (Op.bytesLess a.toList b.toList || a.toList == b.toList) = decide (key a ≤ key b) := by
  rw [less_eq, ByteArray.toList_eq, ByteArray.toList_eq]
  unfold key
  by_cases h : a.data.toList ≤ b.data.toList
  · rw [decide_eq_true h]
    by_cases h2 : a.data.toList < b.data.toList
    · simp [h2]
    · have : a.data.toList = b.data.toList := List.le_antisymm h (List.not_lt.1 h2)
      simp [this]
  · rw [decide_eq_false h]
    have h3 := List.not_le.1 h
    have h4 : ¬ a.data.toList < b.data.toList := List.not_lt.2 (List.le_of_lt h3)
    have h5 : a.data.toList ≠ b.data.toList := fun e => h (by rw [e]; exact List.le_refl _)
    rw [decide_eq_false h4, Bool.false_or]
    exact beq_eq_false_iff_ne.2 h5
@[simp] theorem av_lss_str : AV.bin .lss (.lit (.string a)) (.lit (.string b)) = .lit (.bool (decide (key a < key b))) := by
  show AV.bool (Op.bytesLess a.toList b.toList) = _; rw [less_eq, ByteArray.toList_eq, ByteArray.toList_eq]; rfl
@[simp] theorem av_leq_str : AV.bin .leq (.lit (.string a)) (.lit (.string b)) = .lit (.bool (decide (key a ≤ key b))) := by
  show AV.bool (Op.bytesLess a.toList b.toList || a.toList == b.toList) = _; rw [lsle_eq]
@[simp] theorem av_gtr_str : AV.bin .gtr (.lit (.string a)) (.lit (.string b)) = .lit (.bool (!decide (key a ≤ key b))) := by
  show AV.bool (!(Op.bytesLess a.toList b.toList || a.toList == b.toList)) = _; rw [lsle_eq]
@[simp] theorem av_geq_str : AV.bin .geq (.lit (.string a)) (.lit (.string b)) = .lit (.bool (!decide (key a < key b))) := by
  show AV.bool (!Op.bytesLess a.toList b.toList) = _; rw [less_eq, ByteArray.toList_eq, ByteArray.toList_eq]; rfl
@[simp] theorem av_un_not {p : Bool} : AV.un .not (.lit (.bool p)) = .lit (.bool (!p)) := rfl
@[simp] theorem av_unOk_not {p : Bool} : AV.unOk .not (.lit (.bool p)) ↔ True := Iff.rfl
@[simp] theorem av_un_neg {k : IntKind} {n : Int} : AV.un .neg (.lit (.int k n)) = .lit (.int k (k.wrap (0 - n))) := rfl
@[simp] theorem av_unOk_neg {k : IntKind} {n : Int} : AV.unOk .neg (.lit (.int k n)) ↔ True := Iff.rfl
@[simp] theorem av_eqB {p q : Bool} : AV.eqB (.lit (.bool p)) (.lit (.bool q)) = .lit (.bool (p == q)) := rfl
@[simp] theorem av_neB {p q : Bool} : AV.neB (.lit (.bool p)) (.lit (.bool q)) = .lit (.bool (!(p == q))) := rfl
@[simp] theorem av_binOk_adds : AV.binOk .add (.lit (.string a)) (.lit (.string b)) ↔ ((a.size + b.size : Nat) : Int) ≤ 9223372036854775807 := Iff.rfl
@[simp] theorem av_adds : AV.bin .add (.lit (.string a)) (.lit (.string b)) = .lit (.string (a ++ b)) := rfl
@[simp] theorem av_eqc_int {k k' : IntKind} {m n : Int} : AV.eqc (.lit (.int k m)) (.lit (.int k' n)) = (m == n) := rfl
@[simp] theorem av_eqc_bool {p q : Bool} : AV.eqc (.lit (.bool p)) (.lit (.bool q)) = (p == q) := rfl
@[simp] theorem av_eqc_str : AV.eqc (.lit (.string a)) (.lit (.string b)) = decide (a = b) := bytes_eq
@[simp] theorem av_okA_int {k k' : IntKind} {n : Int} : okA (.int k) (.lit (.int k' n)) ↔ k' = k := ⟨fun ⟨_, e⟩ => by injection e with e; injection e, fun e => by subst e; exact ⟨_, rfl⟩⟩
@[simp] theorem av_okA_str : okA .str (.lit (.string a)) ↔ True := ⟨fun _ => trivial, fun _ => ⟨_, rfl⟩⟩
@[simp] theorem av_okA_bool {p : Bool} : okA .bool (.lit (.bool p)) ↔ True := ⟨fun _ => trivial, fun _ => ⟨_, rfl⟩⟩
end
@[simp] theorem av_mkRef {cs : List AV} : AV.mkRef cs = .ref cs := rfl
@[simp] theorem av_mkClo {f : FuncId} {cs : List AV} : AV.mkClo f cs = .clo f cs := rfl
@[simp] theorem av_isRef {cs : List AV} {m : Nat} : AV.isRef (.ref cs) m ↔ cs.length = m := ⟨fun ⟨_, e, h⟩ => by injection e with e; rw [e]; exact h, fun h => ⟨cs, rfl, h⟩⟩
@[simp] theorem av_der {x : AV} {cs : List AV} : AV.der (.ref (x :: cs)) = x := rfl
@[simp] theorem av_derA {cs : List AV} : AV.derA (.ref cs) = .agg cs := rfl
/-- The first place at which p holds; -1: none. -/
def idxN {α : Type} (p : α → Bool) : Nat → List α → Int
  | _, [] => -1
  | n, x :: r => if p x = true then (n : Int) else idxN p (n + 1) r
/-- A nil slice that is not named by its type. -/
inductive NL : AV → AV → Prop
  | refl (x : AV) : NL x x
  | nil (s : Nat) : NL (.lit (.slice none 0 0)) (.sl s [])
  | agg (cs ds : List AV) (h : cs.length = ds.length) (hi : ∀ i, i < cs.length → NL (cs.getD i default) (ds.getD i default)) : NL (.agg cs) (.agg ds)
theorem NL.rv {w : World} {ok : Nat → Prop} {x y : AV} {v : Value} (h : NL x y) (hv : RV w ok x v) : RV w ok y v := by
  induction h generalizing v with
  | refl x => exact hv
  | nil s => cases hv; exact .sl s [] none 0 0 (fun _ _ => undef) rfl (Nat.le_refl _) (by unfold maxLen; omega) (by simp) (fun q => absurd q (by omega)) (fun i j hi => absurd hi (by omega)) (fun i j hi => absurd hi (by omega))
  | agg cs ds h hi ih =>
    cases hv with
    | agg _ vs h1 h2 h3 => exact .agg ds vs (h1.trans h) (fun i q => h2 i (h ▸ q)) fun i q => ih i (h ▸ q) (h3 i (h ▸ q))
inductive NLs : List AV → List AV → Prop
  | nil : NLs [] []
  | cons {x y : AV} {l m : List AV} (h : NL x y) (t : NLs l m) : NLs (x :: l) (y :: m)
end Go.Proofs.YtdlakpomcafemaaDoor
/- Arguments of plain types, opened. -/
namespace Go.Proofs.YtdlakpomcafemaaDoor
open Go.RowKit
set_option linter.unusedVariables false
def I64 (n : Int) : Prop := -9223372036854775808 ≤ n ∧ n ≤ 9223372036854775807
theorem i64_of {n : Int} (h : (Lit.int .i64 n).wf = true) : I64 n := by
  have h' : (IntKind.i64.min ≤ n && n ≤ IntKind.i64.max) = true := h
  simp only [Bool.and_eq_true, decide_eq_true_eq] at h'
  have e1 : IntKind.i64.min = -9223372036854775808 := by decide
  have e2 : IntKind.i64.max = 9223372036854775807 := by decide
  rw [e1, e2] at h'
  exact h'
section
variable {P : Program} {u e : TypeId} {x : AV} {d : Nat}
theorem c_int (hu : P.underlying u = some (.int .i64)) (h : CellOk P (d + 1) u x) : ∃ n, x = .int n ∧ I64 n := by
  obtain ⟨n, e, hw⟩ := cell_int hu h
  exact ⟨n, e, i64_of hw⟩
theorem c_str (hu : P.underlying u = some .string) (h : CellOk P (d + 1) u x) : ∃ s : ByteArray, x = .string s ∧ s.size ≤ maxLen := cell_str hu h
/-- A slice whose elements are read by 'encA'. -/
theorem c_lst {α : Type} {encA : α → List AV} {Q : α → Prop} {tys : List TypeId} {s : Nat} (hu : P.underlying u = some (.slice e)) (ht : flatTy P 8 e = some tys) (hs : P.cellsOf e = s)
    (hd : ∀ y : List AV, y.length = tys.length → (∀ i u', tys[i]? = some u' → CellOk P d u' (y.getD i default)) → ∃ a, y = encA a ∧ Q a) (h : CellOk P (d + 1) u x) : ∃ l : List α, x = lst s encA l ∧ l.length ≤ maxLen ∧ ∀ a ∈ l, Q a := by
  obtain ⟨L, e1, h1, h2⟩ := cell_sl hu ht hs h
  obtain ⟨l, e2, h3⟩ := list_dec (L := L) (encA := encA) (Q := Q) fun y hy => hd y (h2 y hy).1 (h2 y hy).2
  subst e2
  exact ⟨l, e1, by simpa using h1, h3⟩
end
end Go.Proofs.YtdlakpomcafemaaDoor
/- Names: what the run ends in. -/
namespace Go.Proofs.YtdlakpomcafemaaDoor
open Go.RowKit
set_option linter.unusedVariables false
set_option maxRecDepth 100000
namespace NameF
--GAMMA
def Γ : FuncId → Option Ca := fun _ => none
def ann : FuncId → Nat → LoopEx := fun _ _ => ⟨[], [], [], []⟩
--END GAMMA
theorem name_form (x0 r : AV) : fnF Tryd.prog Γ ann 0 30 Tryd.f30 (Tryd.f30.body.getD .skip) (.nil) [x0] (.sc) r = (((AV.isStr x0) ∧
((AV.binOk Go.BinOp.lss (AV.slen x0) (AV.int 1)) ∧
((AV.isBool (AV.bin Go.BinOp.lss (AV.slen x0) (AV.int 1))) ∧
(((isT (AV.bin Go.BinOp.lss (AV.slen x0) (AV.int 1))) →
  ((AV.isBool (AV.bin Go.BinOp.lss (AV.slen x0) (AV.int 1))) ∧
  ((isT (AV.bin Go.BinOp.lss (AV.slen x0) (AV.int 1))) ∧
  ((AV.flat (AV.bool false)) ∧
  (fSame (AV.bool false) r))))) ∧
((isF (AV.bin Go.BinOp.lss (AV.slen x0) (AV.int 1))) →
  ((AV.isStr x0) ∧
  ((AV.binOk Go.BinOp.gtr (AV.slen x0) (AV.int 8)) ∧
  ((AV.isBool (AV.bin Go.BinOp.lss (AV.slen x0) (AV.int 1))) ∧
  ((isF (AV.bin Go.BinOp.lss (AV.slen x0) (AV.int 1))) ∧
  ((AV.isBool (AV.bin Go.BinOp.gtr (AV.slen x0) (AV.int 8))) ∧
  (((isT (AV.bin Go.BinOp.gtr (AV.slen x0) (AV.int 8))) →
    ((AV.flat (AV.bool false)) ∧
    (fSame (AV.bool false) r))) ∧
  ((isF (AV.bin Go.BinOp.gtr (AV.slen x0) (AV.int 8))) →
    ((AV.isStr x0) ∧
    ((AV.bytesOk x0) ∧
    ((AV.isSl (AV.bytes x0) 1) ∧
    (fLoop 833 [(AV.int 0)] fun ys833 again833 =>
      ((AV.binOk Go.BinOp.lss (ys833.getD 0 default) (AV.len (AV.bytes x0))) ∧
      ((AV.isBool (AV.bin Go.BinOp.lss (ys833.getD 0 default) (AV.len (AV.bytes x0)))) ∧
      (((isT (AV.bin Go.BinOp.lss (ys833.getD 0 default) (AV.len (AV.bytes x0)))) →
        ((AV.isSl (AV.bytes x0) 1) ∧
        ((AV.inb (AV.bytes x0) (ys833.getD 0 default)) ∧
        ((AV.binOk Go.BinOp.geq (AV.at (AV.bytes x0) (ys833.getD 0 default) 0) (AV.lit (Value.int Go.IntKind.u8 65))) ∧
        ((AV.isBool (AV.bin Go.BinOp.geq (AV.at (AV.bytes x0) (ys833.getD 0 default) 0) (AV.lit (Value.int Go.IntKind.u8 65)))) ∧
        (((isT (AV.bin Go.BinOp.geq (AV.at (AV.bytes x0) (ys833.getD 0 default) 0) (AV.lit (Value.int Go.IntKind.u8 65)))) →
          ((AV.binOk Go.BinOp.leq (AV.at (AV.bytes x0) (ys833.getD 0 default) 0) (AV.lit (Value.int Go.IntKind.u8 90))) ∧
          ((AV.isBool (AV.bin Go.BinOp.geq (AV.at (AV.bytes x0) (ys833.getD 0 default) 0) (AV.lit (Value.int Go.IntKind.u8 65)))) ∧
          ((isT (AV.bin Go.BinOp.geq (AV.at (AV.bytes x0) (ys833.getD 0 default) 0) (AV.lit (Value.int Go.IntKind.u8 65)))) ∧
          ((AV.isBool (AV.bin Go.BinOp.leq (AV.at (AV.bytes x0) (ys833.getD 0 default) 0) (AV.lit (Value.int Go.IntKind.u8 90)))) ∧
          (((isT (AV.bin Go.BinOp.leq (AV.at (AV.bytes x0) (ys833.getD 0 default) 0) (AV.lit (Value.int Go.IntKind.u8 90)))) →
            ((AV.isBool (AV.bin Go.BinOp.leq (AV.at (AV.bytes x0) (ys833.getD 0 default) 0) (AV.lit (Value.int Go.IntKind.u8 90)))) ∧
            ((isT (AV.bin Go.BinOp.leq (AV.at (AV.bytes x0) (ys833.getD 0 default) 0) (AV.lit (Value.int Go.IntKind.u8 90)))) ∧
            ((AV.binOk Go.BinOp.add (ys833.getD 0 default) (AV.int 1)) ∧
            (again833 [(AV.bin Go.BinOp.add (ys833.getD 0 default) (AV.int 1))]))))) ∧
          ((isF (AV.bin Go.BinOp.leq (AV.at (AV.bytes x0) (ys833.getD 0 default) 0) (AV.lit (Value.int Go.IntKind.u8 90)))) →
            ((AV.binOk Go.BinOp.gtr (ys833.getD 0 default) (AV.int 0)) ∧
            ((AV.isBool (AV.bin Go.BinOp.gtr (ys833.getD 0 default) (AV.int 0))) ∧
            (((isT (AV.bin Go.BinOp.gtr (ys833.getD 0 default) (AV.int 0))) →
              ((AV.binOk Go.BinOp.geq (AV.at (AV.bytes x0) (ys833.getD 0 default) 0) (AV.lit (Value.int Go.IntKind.u8 48))) ∧
              ((AV.isBool (AV.bin Go.BinOp.gtr (ys833.getD 0 default) (AV.int 0))) ∧
              ((isT (AV.bin Go.BinOp.gtr (ys833.getD 0 default) (AV.int 0))) ∧
              ((AV.isBool (AV.bin Go.BinOp.geq (AV.at (AV.bytes x0) (ys833.getD 0 default) 0) (AV.lit (Value.int Go.IntKind.u8 48)))) ∧
              (((isT (AV.bin Go.BinOp.geq (AV.at (AV.bytes x0) (ys833.getD 0 default) 0) (AV.lit (Value.int Go.IntKind.u8 48)))) →
                ((AV.binOk Go.BinOp.leq (AV.at (AV.bytes x0) (ys833.getD 0 default) 0) (AV.lit (Value.int Go.IntKind.u8 57))) ∧
                ((AV.isBool (AV.bin Go.BinOp.geq (AV.at (AV.bytes x0) (ys833.getD 0 default) 0) (AV.lit (Value.int Go.IntKind.u8 48)))) ∧
                ((isT (AV.bin Go.BinOp.geq (AV.at (AV.bytes x0) (ys833.getD 0 default) 0) (AV.lit (Value.int Go.IntKind.u8 48)))) ∧
                ((AV.isBool (AV.bin Go.BinOp.leq (AV.at (AV.bytes x0) (ys833.getD 0 default) 0) (AV.lit (Value.int Go.IntKind.u8 90)))) ∧
                ((isF (AV.bin Go.BinOp.leq (AV.at (AV.bytes x0) (ys833.getD 0 default) 0) (AV.lit (Value.int Go.IntKind.u8 90)))) ∧
                ((AV.unOk Go.UnOp.not (AV.bin Go.BinOp.leq (AV.at (AV.bytes x0) (ys833.getD 0 default) 0) (AV.lit (Value.int Go.IntKind.u8 57)))) ∧
                ((AV.isBool (AV.un Go.UnOp.not (AV.bin Go.BinOp.leq (AV.at (AV.bytes x0) (ys833.getD 0 default) 0) (AV.lit (Value.int Go.IntKind.u8 57))))) ∧
                (((isT (AV.un Go.UnOp.not (AV.bin Go.BinOp.leq (AV.at (AV.bytes x0) (ys833.getD 0 default) 0) (AV.lit (Value.int Go.IntKind.u8 57))))) →
                  ((AV.flat (AV.bool false)) ∧
                  (fSame (AV.bool false) r))) ∧
                ((isF (AV.un Go.UnOp.not (AV.bin Go.BinOp.leq (AV.at (AV.bytes x0) (ys833.getD 0 default) 0) (AV.lit (Value.int Go.IntKind.u8 57))))) →
                  ((AV.binOk Go.BinOp.add (ys833.getD 0 default) (AV.int 1)) ∧
                  (again833 [(AV.bin Go.BinOp.add (ys833.getD 0 default) (AV.int 1))])))))))))))) ∧
              ((isF (AV.bin Go.BinOp.geq (AV.at (AV.bytes x0) (ys833.getD 0 default) 0) (AV.lit (Value.int Go.IntKind.u8 48)))) →
                ((AV.isBool (AV.bin Go.BinOp.geq (AV.at (AV.bytes x0) (ys833.getD 0 default) 0) (AV.lit (Value.int Go.IntKind.u8 48)))) ∧
                ((isF (AV.bin Go.BinOp.geq (AV.at (AV.bytes x0) (ys833.getD 0 default) 0) (AV.lit (Value.int Go.IntKind.u8 48)))) ∧
                ((AV.isBool (AV.bin Go.BinOp.leq (AV.at (AV.bytes x0) (ys833.getD 0 default) 0) (AV.lit (Value.int Go.IntKind.u8 90)))) ∧
                ((isF (AV.bin Go.BinOp.leq (AV.at (AV.bytes x0) (ys833.getD 0 default) 0) (AV.lit (Value.int Go.IntKind.u8 90)))) ∧
                ((AV.flat (AV.bool false)) ∧
                (fSame (AV.bool false) r))))))))))))) ∧
            ((isF (AV.bin Go.BinOp.gtr (ys833.getD 0 default) (AV.int 0))) →
              ((AV.isBool (AV.bin Go.BinOp.gtr (ys833.getD 0 default) (AV.int 0))) ∧
              ((isF (AV.bin Go.BinOp.gtr (ys833.getD 0 default) (AV.int 0))) ∧
              ((AV.isBool (AV.bin Go.BinOp.leq (AV.at (AV.bytes x0) (ys833.getD 0 default) 0) (AV.lit (Value.int Go.IntKind.u8 90)))) ∧
              ((isF (AV.bin Go.BinOp.leq (AV.at (AV.bytes x0) (ys833.getD 0 default) 0) (AV.lit (Value.int Go.IntKind.u8 90)))) ∧
              ((AV.flat (AV.bool false)) ∧
              (fSame (AV.bool false) r))))))))))))))))) ∧
        ((isF (AV.bin Go.BinOp.geq (AV.at (AV.bytes x0) (ys833.getD 0 default) 0) (AV.lit (Value.int Go.IntKind.u8 65)))) →
          ((AV.isBool (AV.bin Go.BinOp.geq (AV.at (AV.bytes x0) (ys833.getD 0 default) 0) (AV.lit (Value.int Go.IntKind.u8 65)))) ∧
          ((isF (AV.bin Go.BinOp.geq (AV.at (AV.bytes x0) (ys833.getD 0 default) 0) (AV.lit (Value.int Go.IntKind.u8 65)))) ∧
          ((AV.binOk Go.BinOp.gtr (ys833.getD 0 default) (AV.int 0)) ∧
          ((AV.isBool (AV.bin Go.BinOp.gtr (ys833.getD 0 default) (AV.int 0))) ∧
          (((isT (AV.bin Go.BinOp.gtr (ys833.getD 0 default) (AV.int 0))) →
            ((AV.binOk Go.BinOp.geq (AV.at (AV.bytes x0) (ys833.getD 0 default) 0) (AV.lit (Value.int Go.IntKind.u8 48))) ∧
            ((AV.isBool (AV.bin Go.BinOp.gtr (ys833.getD 0 default) (AV.int 0))) ∧
            ((isT (AV.bin Go.BinOp.gtr (ys833.getD 0 default) (AV.int 0))) ∧
            ((AV.isBool (AV.bin Go.BinOp.geq (AV.at (AV.bytes x0) (ys833.getD 0 default) 0) (AV.lit (Value.int Go.IntKind.u8 48)))) ∧
            (((isT (AV.bin Go.BinOp.geq (AV.at (AV.bytes x0) (ys833.getD 0 default) 0) (AV.lit (Value.int Go.IntKind.u8 48)))) →
              ((AV.binOk Go.BinOp.leq (AV.at (AV.bytes x0) (ys833.getD 0 default) 0) (AV.lit (Value.int Go.IntKind.u8 57))) ∧
              ((AV.isBool (AV.bin Go.BinOp.geq (AV.at (AV.bytes x0) (ys833.getD 0 default) 0) (AV.lit (Value.int Go.IntKind.u8 48)))) ∧
              ((isT (AV.bin Go.BinOp.geq (AV.at (AV.bytes x0) (ys833.getD 0 default) 0) (AV.lit (Value.int Go.IntKind.u8 48)))) ∧
              ((AV.unOk Go.UnOp.not (AV.bin Go.BinOp.leq (AV.at (AV.bytes x0) (ys833.getD 0 default) 0) (AV.lit (Value.int Go.IntKind.u8 57)))) ∧
              ((AV.isBool (AV.un Go.UnOp.not (AV.bin Go.BinOp.leq (AV.at (AV.bytes x0) (ys833.getD 0 default) 0) (AV.lit (Value.int Go.IntKind.u8 57))))) ∧
              (((isT (AV.un Go.UnOp.not (AV.bin Go.BinOp.leq (AV.at (AV.bytes x0) (ys833.getD 0 default) 0) (AV.lit (Value.int Go.IntKind.u8 57))))) →
                ((AV.flat (AV.bool false)) ∧
                (fSame (AV.bool false) r))) ∧
              ((isF (AV.un Go.UnOp.not (AV.bin Go.BinOp.leq (AV.at (AV.bytes x0) (ys833.getD 0 default) 0) (AV.lit (Value.int Go.IntKind.u8 57))))) →
                ((AV.binOk Go.BinOp.add (ys833.getD 0 default) (AV.int 1)) ∧
                (again833 [(AV.bin Go.BinOp.add (ys833.getD 0 default) (AV.int 1))])))))))))) ∧
            ((isF (AV.bin Go.BinOp.geq (AV.at (AV.bytes x0) (ys833.getD 0 default) 0) (AV.lit (Value.int Go.IntKind.u8 48)))) →
              ((AV.isBool (AV.bin Go.BinOp.geq (AV.at (AV.bytes x0) (ys833.getD 0 default) 0) (AV.lit (Value.int Go.IntKind.u8 48)))) ∧
              ((isF (AV.bin Go.BinOp.geq (AV.at (AV.bytes x0) (ys833.getD 0 default) 0) (AV.lit (Value.int Go.IntKind.u8 48)))) ∧
              ((AV.flat (AV.bool false)) ∧
              (fSame (AV.bool false) r))))))))))) ∧
          ((isF (AV.bin Go.BinOp.gtr (ys833.getD 0 default) (AV.int 0))) →
            ((AV.isBool (AV.bin Go.BinOp.gtr (ys833.getD 0 default) (AV.int 0))) ∧
            ((isF (AV.bin Go.BinOp.gtr (ys833.getD 0 default) (AV.int 0))) ∧
            ((AV.flat (AV.bool false)) ∧
            (fSame (AV.bool false) r))))))))))))))))) ∧
      ((isF (AV.bin Go.BinOp.lss (ys833.getD 0 default) (AV.len (AV.bytes x0)))) →
        ((AV.flat (AV.bool true)) ∧
        (fSame (AV.bool true) r))))))))))))))))))))))) := by kernel_rfl
theorem isname_form (x0 r : AV) : fnF Tryd.prog Γ ann 0 57 Tryd.f57 (Tryd.f57.body.getD .skip) (.nil) [x0] (.sc) r = (((AV.binOk Go.BinOp.eql x0 (AV.lit (Value.string ⟨#[]⟩))) ∧
((AV.isBool (AV.bin Go.BinOp.eql x0 (AV.lit (Value.string ⟨#[]⟩)))) ∧
(((isT (AV.bin Go.BinOp.eql x0 (AV.lit (Value.string ⟨#[]⟩)))) →
  ((AV.isBool (AV.bin Go.BinOp.eql x0 (AV.lit (Value.string ⟨#[]⟩)))) ∧
  ((isT (AV.bin Go.BinOp.eql x0 (AV.lit (Value.string ⟨#[]⟩)))) ∧
  ((AV.flat (AV.bool false)) ∧
  (fSame (AV.bool false) r))))) ∧
((isF (AV.bin Go.BinOp.eql x0 (AV.lit (Value.string ⟨#[]⟩)))) →
  ((AV.isStr x0) ∧
  ((AV.binOk Go.BinOp.gtr (AV.slen x0) (AV.int 8)) ∧
  ((AV.isBool (AV.bin Go.BinOp.eql x0 (AV.lit (Value.string ⟨#[]⟩)))) ∧
  ((isF (AV.bin Go.BinOp.eql x0 (AV.lit (Value.string ⟨#[]⟩)))) ∧
  ((AV.isBool (AV.bin Go.BinOp.gtr (AV.slen x0) (AV.int 8))) ∧
  (((isT (AV.bin Go.BinOp.gtr (AV.slen x0) (AV.int 8))) →
    ((AV.isBool (AV.bin Go.BinOp.gtr (AV.slen x0) (AV.int 8))) ∧
    ((isT (AV.bin Go.BinOp.gtr (AV.slen x0) (AV.int 8))) ∧
    ((AV.flat (AV.bool false)) ∧
    (fSame (AV.bool false) r))))) ∧
  ((isF (AV.bin Go.BinOp.gtr (AV.slen x0) (AV.int 8))) →
    ((AV.isStr x0) ∧
    ((AV.sinb x0 (AV.int 0)) ∧
    ((AV.binOk Go.BinOp.geq (AV.sat x0 (AV.int 0)) (AV.lit (Value.int Go.IntKind.u8 48))) ∧
    ((AV.isBool (AV.bin Go.BinOp.geq (AV.sat x0 (AV.int 0)) (AV.lit (Value.int Go.IntKind.u8 48)))) ∧
    (((isT (AV.bin Go.BinOp.geq (AV.sat x0 (AV.int 0)) (AV.lit (Value.int Go.IntKind.u8 48)))) →
      ((AV.isStr x0) ∧
      ((AV.sinb x0 (AV.int 0)) ∧
      ((AV.binOk Go.BinOp.leq (AV.sat x0 (AV.int 0)) (AV.lit (Value.int Go.IntKind.u8 57))) ∧
      ((AV.isBool (AV.bin Go.BinOp.geq (AV.sat x0 (AV.int 0)) (AV.lit (Value.int Go.IntKind.u8 48)))) ∧
      ((isT (AV.bin Go.BinOp.geq (AV.sat x0 (AV.int 0)) (AV.lit (Value.int Go.IntKind.u8 48)))) ∧
      ((AV.isBool (AV.bin Go.BinOp.gtr (AV.slen x0) (AV.int 8))) ∧
      ((isF (AV.bin Go.BinOp.gtr (AV.slen x0) (AV.int 8))) ∧
      ((AV.isBool (AV.bin Go.BinOp.leq (AV.sat x0 (AV.int 0)) (AV.lit (Value.int Go.IntKind.u8 57)))) ∧
      (((isT (AV.bin Go.BinOp.leq (AV.sat x0 (AV.int 0)) (AV.lit (Value.int Go.IntKind.u8 57)))) →
        ((AV.flat (AV.bool false)) ∧
        (fSame (AV.bool false) r))) ∧
      ((isF (AV.bin Go.BinOp.leq (AV.sat x0 (AV.int 0)) (AV.lit (Value.int Go.IntKind.u8 57)))) →
        (fLoop 1217 [(AV.int 0)] fun ys1217 again1217 =>
          ((AV.isStr x0) ∧
          ((AV.binOk Go.BinOp.lss (ys1217.getD 0 default) (AV.slen x0)) ∧
          ((AV.isBool (AV.bin Go.BinOp.lss (ys1217.getD 0 default) (AV.slen x0))) ∧
          (((isT (AV.bin Go.BinOp.lss (ys1217.getD 0 default) (AV.slen x0))) →
            ((AV.isStr x0) ∧
            ((AV.sinb x0 (ys1217.getD 0 default)) ∧
            ((AV.binOk Go.BinOp.lss (AV.sat x0 (ys1217.getD 0 default)) (AV.lit (Value.int Go.IntKind.u8 65))) ∧
            ((AV.isBool (AV.bin Go.BinOp.lss (AV.sat x0 (ys1217.getD 0 default)) (AV.lit (Value.int Go.IntKind.u8 65)))) ∧
            (((isT (AV.bin Go.BinOp.lss (AV.sat x0 (ys1217.getD 0 default)) (AV.lit (Value.int Go.IntKind.u8 65)))) →
              ((AV.isBool (AV.bin Go.BinOp.lss (AV.sat x0 (ys1217.getD 0 default)) (AV.lit (Value.int Go.IntKind.u8 65)))) ∧
              ((isT (AV.bin Go.BinOp.lss (AV.sat x0 (ys1217.getD 0 default)) (AV.lit (Value.int Go.IntKind.u8 65)))) ∧
              ((AV.binOk Go.BinOp.lss (AV.sat x0 (ys1217.getD 0 default)) (AV.lit (Value.int Go.IntKind.u8 48))) ∧
              ((AV.isBool (AV.bin Go.BinOp.lss (AV.sat x0 (ys1217.getD 0 default)) (AV.lit (Value.int Go.IntKind.u8 48)))) ∧
              (((isT (AV.bin Go.BinOp.lss (AV.sat x0 (ys1217.getD 0 default)) (AV.lit (Value.int Go.IntKind.u8 48)))) →
                ((AV.isBool (AV.bin Go.BinOp.lss (AV.sat x0 (ys1217.getD 0 default)) (AV.lit (Value.int Go.IntKind.u8 48)))) ∧
                ((isT (AV.bin Go.BinOp.lss (AV.sat x0 (ys1217.getD 0 default)) (AV.lit (Value.int Go.IntKind.u8 48)))) ∧
                ((AV.flat (AV.bool false)) ∧
                (fSame (AV.bool false) r))))) ∧
              ((isF (AV.bin Go.BinOp.lss (AV.sat x0 (ys1217.getD 0 default)) (AV.lit (Value.int Go.IntKind.u8 48)))) →
                ((AV.binOk Go.BinOp.gtr (AV.sat x0 (ys1217.getD 0 default)) (AV.lit (Value.int Go.IntKind.u8 57))) ∧
                ((AV.isBool (AV.bin Go.BinOp.lss (AV.sat x0 (ys1217.getD 0 default)) (AV.lit (Value.int Go.IntKind.u8 48)))) ∧
                ((isF (AV.bin Go.BinOp.lss (AV.sat x0 (ys1217.getD 0 default)) (AV.lit (Value.int Go.IntKind.u8 48)))) ∧
                ((AV.isBool (AV.bin Go.BinOp.gtr (AV.sat x0 (ys1217.getD 0 default)) (AV.lit (Value.int Go.IntKind.u8 57)))) ∧
                (((isT (AV.bin Go.BinOp.gtr (AV.sat x0 (ys1217.getD 0 default)) (AV.lit (Value.int Go.IntKind.u8 57)))) →
                  ((AV.flat (AV.bool false)) ∧
                  (fSame (AV.bool false) r))) ∧
                ((isF (AV.bin Go.BinOp.gtr (AV.sat x0 (ys1217.getD 0 default)) (AV.lit (Value.int Go.IntKind.u8 57)))) →
                  ((AV.binOk Go.BinOp.add (ys1217.getD 0 default) (AV.int 1)) ∧
                  (again1217 [(AV.bin Go.BinOp.add (ys1217.getD 0 default) (AV.int 1))]))))))))))))))) ∧
            ((isF (AV.bin Go.BinOp.lss (AV.sat x0 (ys1217.getD 0 default)) (AV.lit (Value.int Go.IntKind.u8 65)))) →
              ((AV.binOk Go.BinOp.gtr (AV.sat x0 (ys1217.getD 0 default)) (AV.lit (Value.int Go.IntKind.u8 90))) ∧
              ((AV.isBool (AV.bin Go.BinOp.lss (AV.sat x0 (ys1217.getD 0 default)) (AV.lit (Value.int Go.IntKind.u8 65)))) ∧
              ((isF (AV.bin Go.BinOp.lss (AV.sat x0 (ys1217.getD 0 default)) (AV.lit (Value.int Go.IntKind.u8 65)))) ∧
              ((AV.isBool (AV.bin Go.BinOp.gtr (AV.sat x0 (ys1217.getD 0 default)) (AV.lit (Value.int Go.IntKind.u8 90)))) ∧
              (((isT (AV.bin Go.BinOp.gtr (AV.sat x0 (ys1217.getD 0 default)) (AV.lit (Value.int Go.IntKind.u8 90)))) →
                ((AV.binOk Go.BinOp.lss (AV.sat x0 (ys1217.getD 0 default)) (AV.lit (Value.int Go.IntKind.u8 48))) ∧
                ((AV.isBool (AV.bin Go.BinOp.lss (AV.sat x0 (ys1217.getD 0 default)) (AV.lit (Value.int Go.IntKind.u8 48)))) ∧
                (((isT (AV.bin Go.BinOp.lss (AV.sat x0 (ys1217.getD 0 default)) (AV.lit (Value.int Go.IntKind.u8 48)))) →
                  ((AV.isBool (AV.bin Go.BinOp.lss (AV.sat x0 (ys1217.getD 0 default)) (AV.lit (Value.int Go.IntKind.u8 48)))) ∧
                  ((isT (AV.bin Go.BinOp.lss (AV.sat x0 (ys1217.getD 0 default)) (AV.lit (Value.int Go.IntKind.u8 48)))) ∧
                  ((AV.isBool (AV.bin Go.BinOp.gtr (AV.sat x0 (ys1217.getD 0 default)) (AV.lit (Value.int Go.IntKind.u8 90)))) ∧
                  ((isT (AV.bin Go.BinOp.gtr (AV.sat x0 (ys1217.getD 0 default)) (AV.lit (Value.int Go.IntKind.u8 90)))) ∧
                  ((AV.flat (AV.bool false)) ∧
                  (fSame (AV.bool false) r))))))) ∧
                ((isF (AV.bin Go.BinOp.lss (AV.sat x0 (ys1217.getD 0 default)) (AV.lit (Value.int Go.IntKind.u8 48)))) →
                  ((AV.binOk Go.BinOp.gtr (AV.sat x0 (ys1217.getD 0 default)) (AV.lit (Value.int Go.IntKind.u8 57))) ∧
                  ((AV.isBool (AV.bin Go.BinOp.lss (AV.sat x0 (ys1217.getD 0 default)) (AV.lit (Value.int Go.IntKind.u8 48)))) ∧
                  ((isF (AV.bin Go.BinOp.lss (AV.sat x0 (ys1217.getD 0 default)) (AV.lit (Value.int Go.IntKind.u8 48)))) ∧
                  ((AV.isBool (AV.bin Go.BinOp.gtr (AV.sat x0 (ys1217.getD 0 default)) (AV.lit (Value.int Go.IntKind.u8 90)))) ∧
                  ((isT (AV.bin Go.BinOp.gtr (AV.sat x0 (ys1217.getD 0 default)) (AV.lit (Value.int Go.IntKind.u8 90)))) ∧
                  ((AV.isBool (AV.bin Go.BinOp.gtr (AV.sat x0 (ys1217.getD 0 default)) (AV.lit (Value.int Go.IntKind.u8 57)))) ∧
                  (((isT (AV.bin Go.BinOp.gtr (AV.sat x0 (ys1217.getD 0 default)) (AV.lit (Value.int Go.IntKind.u8 57)))) →
                    ((AV.flat (AV.bool false)) ∧
                    (fSame (AV.bool false) r))) ∧
                  ((isF (AV.bin Go.BinOp.gtr (AV.sat x0 (ys1217.getD 0 default)) (AV.lit (Value.int Go.IntKind.u8 57)))) →
                    ((AV.binOk Go.BinOp.add (ys1217.getD 0 default) (AV.int 1)) ∧
                    (again1217 [(AV.bin Go.BinOp.add (ys1217.getD 0 default) (AV.int 1))]))))))))))))))) ∧
              ((isF (AV.bin Go.BinOp.gtr (AV.sat x0 (ys1217.getD 0 default)) (AV.lit (Value.int Go.IntKind.u8 90)))) →
                ((AV.isBool (AV.bin Go.BinOp.gtr (AV.sat x0 (ys1217.getD 0 default)) (AV.lit (Value.int Go.IntKind.u8 90)))) ∧
                ((isF (AV.bin Go.BinOp.gtr (AV.sat x0 (ys1217.getD 0 default)) (AV.lit (Value.int Go.IntKind.u8 90)))) ∧
                ((AV.binOk Go.BinOp.add (ys1217.getD 0 default) (AV.int 1)) ∧
                (again1217 [(AV.bin Go.BinOp.add (ys1217.getD 0 default) (AV.int 1))]))))))))))))))))) ∧
          ((isF (AV.bin Go.BinOp.lss (ys1217.getD 0 default) (AV.slen x0))) →
            ((AV.flat (AV.bool true)) ∧
            (fSame (AV.bool true) r))))))))))))))))))) ∧
    ((isF (AV.bin Go.BinOp.geq (AV.sat x0 (AV.int 0)) (AV.lit (Value.int Go.IntKind.u8 48)))) →
      ((AV.isBool (AV.bin Go.BinOp.geq (AV.sat x0 (AV.int 0)) (AV.lit (Value.int Go.IntKind.u8 48)))) ∧
      ((isF (AV.bin Go.BinOp.geq (AV.sat x0 (AV.int 0)) (AV.lit (Value.int Go.IntKind.u8 48)))) ∧
      ((AV.isBool (AV.bin Go.BinOp.gtr (AV.slen x0) (AV.int 8))) ∧
      ((isF (AV.bin Go.BinOp.gtr (AV.slen x0) (AV.int 8))) ∧
      (fLoop 1217 [(AV.int 0)] fun ys1217 again1217 =>
        ((AV.isStr x0) ∧
        ((AV.binOk Go.BinOp.lss (ys1217.getD 0 default) (AV.slen x0)) ∧
        ((AV.isBool (AV.bin Go.BinOp.lss (ys1217.getD 0 default) (AV.slen x0))) ∧
        (((isT (AV.bin Go.BinOp.lss (ys1217.getD 0 default) (AV.slen x0))) →
          ((AV.isStr x0) ∧
          ((AV.sinb x0 (ys1217.getD 0 default)) ∧
          ((AV.binOk Go.BinOp.lss (AV.sat x0 (ys1217.getD 0 default)) (AV.lit (Value.int Go.IntKind.u8 65))) ∧
          ((AV.isBool (AV.bin Go.BinOp.lss (AV.sat x0 (ys1217.getD 0 default)) (AV.lit (Value.int Go.IntKind.u8 65)))) ∧
          (((isT (AV.bin Go.BinOp.lss (AV.sat x0 (ys1217.getD 0 default)) (AV.lit (Value.int Go.IntKind.u8 65)))) →
            ((AV.isBool (AV.bin Go.BinOp.lss (AV.sat x0 (ys1217.getD 0 default)) (AV.lit (Value.int Go.IntKind.u8 65)))) ∧
            ((isT (AV.bin Go.BinOp.lss (AV.sat x0 (ys1217.getD 0 default)) (AV.lit (Value.int Go.IntKind.u8 65)))) ∧
            ((AV.binOk Go.BinOp.lss (AV.sat x0 (ys1217.getD 0 default)) (AV.lit (Value.int Go.IntKind.u8 48))) ∧
            ((AV.isBool (AV.bin Go.BinOp.lss (AV.sat x0 (ys1217.getD 0 default)) (AV.lit (Value.int Go.IntKind.u8 48)))) ∧
            (((isT (AV.bin Go.BinOp.lss (AV.sat x0 (ys1217.getD 0 default)) (AV.lit (Value.int Go.IntKind.u8 48)))) →
              ((AV.isBool (AV.bin Go.BinOp.lss (AV.sat x0 (ys1217.getD 0 default)) (AV.lit (Value.int Go.IntKind.u8 48)))) ∧
              ((isT (AV.bin Go.BinOp.lss (AV.sat x0 (ys1217.getD 0 default)) (AV.lit (Value.int Go.IntKind.u8 48)))) ∧
              ((AV.flat (AV.bool false)) ∧
              (fSame (AV.bool false) r))))) ∧
            ((isF (AV.bin Go.BinOp.lss (AV.sat x0 (ys1217.getD 0 default)) (AV.lit (Value.int Go.IntKind.u8 48)))) →
              ((AV.binOk Go.BinOp.gtr (AV.sat x0 (ys1217.getD 0 default)) (AV.lit (Value.int Go.IntKind.u8 57))) ∧
              ((AV.isBool (AV.bin Go.BinOp.lss (AV.sat x0 (ys1217.getD 0 default)) (AV.lit (Value.int Go.IntKind.u8 48)))) ∧
              ((isF (AV.bin Go.BinOp.lss (AV.sat x0 (ys1217.getD 0 default)) (AV.lit (Value.int Go.IntKind.u8 48)))) ∧
              ((AV.isBool (AV.bin Go.BinOp.gtr (AV.sat x0 (ys1217.getD 0 default)) (AV.lit (Value.int Go.IntKind.u8 57)))) ∧
              (((isT (AV.bin Go.BinOp.gtr (AV.sat x0 (ys1217.getD 0 default)) (AV.lit (Value.int Go.IntKind.u8 57)))) →
                ((AV.flat (AV.bool false)) ∧
                (fSame (AV.bool false) r))) ∧
              ((isF (AV.bin Go.BinOp.gtr (AV.sat x0 (ys1217.getD 0 default)) (AV.lit (Value.int Go.IntKind.u8 57)))) →
                ((AV.binOk Go.BinOp.add (ys1217.getD 0 default) (AV.int 1)) ∧
                (again1217 [(AV.bin Go.BinOp.add (ys1217.getD 0 default) (AV.int 1))]))))))))))))))) ∧
          ((isF (AV.bin Go.BinOp.lss (AV.sat x0 (ys1217.getD 0 default)) (AV.lit (Value.int Go.IntKind.u8 65)))) →
            ((AV.binOk Go.BinOp.gtr (AV.sat x0 (ys1217.getD 0 default)) (AV.lit (Value.int Go.IntKind.u8 90))) ∧
            ((AV.isBool (AV.bin Go.BinOp.lss (AV.sat x0 (ys1217.getD 0 default)) (AV.lit (Value.int Go.IntKind.u8 65)))) ∧
            ((isF (AV.bin Go.BinOp.lss (AV.sat x0 (ys1217.getD 0 default)) (AV.lit (Value.int Go.IntKind.u8 65)))) ∧
            ((AV.isBool (AV.bin Go.BinOp.gtr (AV.sat x0 (ys1217.getD 0 default)) (AV.lit (Value.int Go.IntKind.u8 90)))) ∧
            (((isT (AV.bin Go.BinOp.gtr (AV.sat x0 (ys1217.getD 0 default)) (AV.lit (Value.int Go.IntKind.u8 90)))) →
              ((AV.binOk Go.BinOp.lss (AV.sat x0 (ys1217.getD 0 default)) (AV.lit (Value.int Go.IntKind.u8 48))) ∧
              ((AV.isBool (AV.bin Go.BinOp.lss (AV.sat x0 (ys1217.getD 0 default)) (AV.lit (Value.int Go.IntKind.u8 48)))) ∧
              (((isT (AV.bin Go.BinOp.lss (AV.sat x0 (ys1217.getD 0 default)) (AV.lit (Value.int Go.IntKind.u8 48)))) →
                ((AV.isBool (AV.bin Go.BinOp.lss (AV.sat x0 (ys1217.getD 0 default)) (AV.lit (Value.int Go.IntKind.u8 48)))) ∧
                ((isT (AV.bin Go.BinOp.lss (AV.sat x0 (ys1217.getD 0 default)) (AV.lit (Value.int Go.IntKind.u8 48)))) ∧
                ((AV.isBool (AV.bin Go.BinOp.gtr (AV.sat x0 (ys1217.getD 0 default)) (AV.lit (Value.int Go.IntKind.u8 90)))) ∧
                ((isT (AV.bin Go.BinOp.gtr (AV.sat x0 (ys1217.getD 0 default)) (AV.lit (Value.int Go.IntKind.u8 90)))) ∧
                ((AV.flat (AV.bool false)) ∧
                (fSame (AV.bool false) r))))))) ∧
              ((isF (AV.bin Go.BinOp.lss (AV.sat x0 (ys1217.getD 0 default)) (AV.lit (Value.int Go.IntKind.u8 48)))) →
                ((AV.binOk Go.BinOp.gtr (AV.sat x0 (ys1217.getD 0 default)) (AV.lit (Value.int Go.IntKind.u8 57))) ∧
                ((AV.isBool (AV.bin Go.BinOp.lss (AV.sat x0 (ys1217.getD 0 default)) (AV.lit (Value.int Go.IntKind.u8 48)))) ∧
                ((isF (AV.bin Go.BinOp.lss (AV.sat x0 (ys1217.getD 0 default)) (AV.lit (Value.int Go.IntKind.u8 48)))) ∧
                ((AV.isBool (AV.bin Go.BinOp.gtr (AV.sat x0 (ys1217.getD 0 default)) (AV.lit (Value.int Go.IntKind.u8 90)))) ∧
                ((isT (AV.bin Go.BinOp.gtr (AV.sat x0 (ys1217.getD 0 default)) (AV.lit (Value.int Go.IntKind.u8 90)))) ∧
                ((AV.isBool (AV.bin Go.BinOp.gtr (AV.sat x0 (ys1217.getD 0 default)) (AV.lit (Value.int Go.IntKind.u8 57)))) ∧
                (((isT (AV.bin Go.BinOp.gtr (AV.sat x0 (ys1217.getD 0 default)) (AV.lit (Value.int Go.IntKind.u8 57)))) →
                  ((AV.flat (AV.bool false)) ∧
                  (fSame (AV.bool false) r))) ∧
                ((isF (AV.bin Go.BinOp.gtr (AV.sat x0 (ys1217.getD 0 default)) (AV.lit (Value.int Go.IntKind.u8 57)))) →
                  ((AV.binOk Go.BinOp.add (ys1217.getD 0 default) (AV.int 1)) ∧
                  (again1217 [(AV.bin Go.BinOp.add (ys1217.getD 0 default) (AV.int 1))]))))))))))))))) ∧
            ((isF (AV.bin Go.BinOp.gtr (AV.sat x0 (ys1217.getD 0 default)) (AV.lit (Value.int Go.IntKind.u8 90)))) →
              ((AV.isBool (AV.bin Go.BinOp.gtr (AV.sat x0 (ys1217.getD 0 default)) (AV.lit (Value.int Go.IntKind.u8 90)))) ∧
              ((isF (AV.bin Go.BinOp.gtr (AV.sat x0 (ys1217.getD 0 default)) (AV.lit (Value.int Go.IntKind.u8 90)))) ∧
              ((AV.binOk Go.BinOp.add (ys1217.getD 0 default) (AV.int 1)) ∧
              (again1217 [(AV.bin Go.BinOp.add (ys1217.getD 0 default) (AV.int 1))]))))))))))))))))) ∧
        ((isF (AV.bin Go.BinOp.lss (ys1217.getD 0 default) (AV.slen x0))) →
          ((AV.flat (AV.bool true)) ∧
          (fSame (AV.bool true) r)))))))))))))))))))))))))))))) := by kernel_rfl
end NameF
end Go.Proofs.YtdlakpomcafemaaDoor
/- Names. -/
namespace Go.Proofs.YtdlakpomcafemaaDoor
open Go.RowKit
set_option linter.unusedVariables false
set_option linter.unusedSimpArgs false
set_option maxRecDepth 100000
def up (c : UInt8) : Prop := 65 ≤ c.toNat ∧ c.toNat ≤ 90
def dig (c : UInt8) : Prop := 48 ≤ c.toNat ∧ c.toNat ≤ 57
instance (c : UInt8) : Decidable (up c) := inferInstanceAs (Decidable (_ ∧ _))
instance (c : UInt8) : Decidable (dig c) := inferInstanceAs (Decidable (_ ∧ _))
def nameG : Nat → List UInt8 → Bool
  | _, [] => true
  | n, x :: rest => decide (up x ∨ (0 < n ∧ dig x)) && nameG (n + 1) rest
/-- A name: one to eight letters and digits, no digit at its head. -/
def isName (s : ByteArray) : Bool := decide (1 ≤ s.size ∧ s.size ≤ 8) && nameG 0 (key s)
theorem nameG_all : ∀ (n : Nat) (l : List UInt8), nameG (n + 1) l = l.all fun c => decide (up c ∨ dig c)
  | _, [] => rfl
  | n, x :: l => by simp [nameG, nameG_all (n + 1) l]
theorem nameG_head {x : UInt8} {l : List UInt8} (h : ¬ dig x) : nameG 0 (x :: l) = (x :: l).all fun c => decide (up c ∨ dig c) := by
  simp [nameG, nameG_all, h]
@[simp] theorem key_len (s : ByteArray) : (key s).length = s.size := Array.length_toList
def encB (c : UInt8) : List AV := [.lit (.int .u8 c.toNat)]
theorem bytes_lst (s : ByteArray) : AV.bytes (.lit (.string s)) = lst 1 encB (key s) := rfl
theorem sat_at {s : ByteArray} {n : Nat} {c : UInt8} {k : IntKind} (h : (key s)[n]? = some c) : AV.sat (.lit (.string s)) (.lit (.int k (n : Nat))) = .lit (.int .u8 c.toNat) := by
  have hn : n < s.data.size := by have := (List.getElem?_eq_some_iff.1 h).1; rwa [Array.length_toList] at this
  have hc : s.data[n] = c := by have := (List.getElem?_eq_some_iff.1 h).2; simpa [key] using this
  have : s[n]? = some c := by
    rw [getElem?_pos s n hn]
    exact congrArg some hc
  unfold AV.sat
  simp [this]
theorem isName_eq (s : ByteArray) (h1 : 1 ≤ s.size) (h2 : s.size ≤ 8) : isName s = nameG 0 (key s) := by
  unfold isName; rw [decide_eq_true ⟨h1, h2⟩, Bool.true_and]
theorem isName_no (s : ByteArray) (h : ¬ (1 ≤ s.size ∧ s.size ≤ 8)) : isName s = false := by
  unfold isName; rw [decide_eq_false h, Bool.false_and]
theorem name_fn (s : ByteArray) : Fn Tryd.prog 30 [.string s] .sc (.bool (isName s)) := by
  refine fn_run mixed 0 (Γ := NameF.Γ) (ann := NameF.ann) Tryd.func30 rfl Tryd.call30 ((NameF.name_form _ _).mpr ?_)
  simp [bytes_lst, AV.bytesOk]
  refine ⟨fun h => ⟨h, ?_⟩, fun h => ⟨h, fun h2 => ?_, fun h2 => ⟨by omega, ?_⟩⟩⟩
  · exact isName_no s (by omega)
  · exact isName_no s (by omega)
  · have hE := isName_eq s (by omega) (by omega)
    refine loop_list (σ := Unit) (key s) (fun n _ => [.int (n : Nat)]) (fun n rest _ => isName s = nameG n rest) () rfl hE ?_ ?_
    · intro n x rest _ K hx hr hn hg hK
      rw [nameG] at hg
      rw [key_len] at hn
      have bad : ¬ (up x ∨ (0 < n ∧ dig x)) → isName s = false := fun h => by rw [hg, decide_eq_false h]; rfl
      have good : (up x ∨ (0 < n ∧ dig x)) → K [.int ((n : Nat) + 1)] := fun h => hK _ () (by simp) (by rw [hg, decide_eq_true h, Bool.true_and])
      unfold up dig at bad good
      simp [hn, lst_at hx, encB]
      (repeat' (first | exact trivial | (with_reducible intro hw; (try simp (disch := omega) only [wrap64] at hw); first | (exfalso; omega; done) | skip) | (with_reducible refine And.intro ?_ ?_) | omega | assumption))
      all_goals (first | exact bad (by omega) | (rw [wrap64 (by omega) (by omega)]; exact good (by omega)))
    · intro _ K hg
      rw [key_len]
      simp [hg, nameG]
theorem isname_fn (s : ByteArray) : Fn Tryd.prog 57 [.string s] .sc (.bool (isName s)) := by
  refine fn_run mixed 0 (Γ := NameF.Γ) (ann := NameF.ann) Tryd.func57 rfl Tryd.call57 ((NameF.isname_form _ _).mpr ?_)
  have hem : s.size = 0 ↔ s = ⟨#[]⟩ := ⟨fun h => ByteArray.ext (Array.size_eq_zero_iff.1 h), fun h => by rw [h]; rfl⟩
  by_cases h0 : s = ⟨#[]⟩
  · simp [h0]
    exact isName_no _ (by decide)
  · have hs0 : 0 < s.size := by have := mt hem.1 h0; omega
    obtain ⟨x, rest, hk⟩ : ∃ x rest, key s = x :: rest := by
      cases hk : key s with
      | nil => have := key_len s; rw [hk] at this; simp at this; omega
      | cons x rest => exact ⟨x, rest, rfl⟩
    have hx0 : AV.sat (.lit (.string s)) (.lit (.int .i64 0)) = .lit (.int .u8 x.toNat) := sat_at (n := 0) (by rw [hk]; rfl)
    simp [h0, hx0, hs0]
    refine ⟨fun h => ⟨h, isName_no s (by omega)⟩, fun h => ?_⟩
    have hE := isName_eq s hs0 (by omega)
    (repeat' (first | exact trivial | (with_reducible intro hw; (try simp (disch := omega) only [wrap64] at hw); first | (exfalso; omega; done) | skip) | (with_reducible refine And.intro ?_ ?_) | omega | assumption))
    all_goals first
      | (rw [hE, hk, nameG, decide_eq_false (by unfold up dig; omega)]; rfl)
      | (have hnd : ¬ dig x := by unfold dig; omega
         have hE2 : isName s = (key s).all fun c => decide (up c ∨ dig c) := by rw [hE, hk, nameG_head hnd]
         refine loop_list (σ := Unit) (key s) (fun n _ => [.int (n : Nat)]) (fun n rest _ => isName s = rest.all fun c => decide (up c ∨ dig c)) () rfl hE2 ?_ ?_
         · intro n y rest' _ K hy hr hn hg hK
           rw [List.all_cons] at hg
           rw [key_len] at hn
           have bad : ¬ (up y ∨ dig y) → isName s = false := fun h => by rw [hg, decide_eq_false h]; rfl
           have good : (up y ∨ dig y) → K [.int ((n : Nat) + 1)] := fun h => hK _ () (by simp) (by rw [hg, decide_eq_true h, Bool.true_and])
           unfold up dig at bad good
           simp [hn, sat_at hy]
           (repeat' (first | exact trivial | (with_reducible intro hw; (try simp (disch := omega) only [wrap64] at hw); first | (exfalso; omega; done) | skip) | (with_reducible refine And.intro ?_ ?_) | omega | assumption))
           all_goals (first | exact bad (by omega) | (rw [wrap64 (by omega) (by omega)]; exact good (by omega)))
         · intro _ K hg
           rw [key_len]
           simp [hg])
end Go.Proofs.YtdlakpomcafemaaDoor
/- readback: what the run ends in. -/
namespace Go.Proofs.YtdlakpomcafemaaDoor
open Go.RowKit
set_option linter.unusedVariables false
set_option maxRecDepth 100000
namespace RbF
--GAMMA
def Γ : FuncId → Option Ca := fun f =>
  if f = 30 ∨ f = 57 ∨ f = 16 ∨ f = 28 ∨ f = 44 ∨ f = 56 ∨ f = 38 ∨ f = 25 ∨ f = 10 then some (.fn .sc)
  else some .inl
def ann : FuncId → Nat → LoopEx := fun f r => ⟨[], [], [], []⟩
--END GAMMA
theorem climbed_form (x0 r : AV) : fnF Tryd.prog Γ ann 1 10 Tryd.f10 (Tryd.f10.body.getD .skip) (.nil) [x0] (.sc) r = (((AV.isOne x0) ∧
((AV.flat (AV.agg [(AV.lit (Value.string ⟨#[65, 49]⟩)), (AV.int 0), x0, (AV.lit (Value.string ⟨#[]⟩))])) ∧
(fSame (AV.agg [(AV.lit (Value.string ⟨#[65, 49]⟩)), (AV.int 0), x0, (AV.lit (Value.string ⟨#[]⟩))]) r)))) := by kernel_rfl
theorem kind_form (x0 r : AV) : fnF Tryd.prog Γ ann 3 44 Tryd.f44 (Tryd.f44.body.getD .skip) (.nil) [x0] (.sc) r = (((AV.isRef (AV.mkRef [(AV.lit (Value.string ⟨#[72, 69, 73, 71, 72, 84]⟩)), (AV.lit (Value.string ⟨#[72, 69, 65, 68, 73, 78, 71]⟩)), (AV.lit (Value.string ⟨#[83, 80, 69, 69, 68]⟩)), (AV.lit (Value.string ⟨#[68, 73, 82, 69, 67, 84]⟩)), (AV.lit (Value.string ⟨#[72, 79, 76, 68]⟩)), (AV.lit (Value.string ⟨#[67, 79, 78, 84, 65, 67, 84]⟩)), (AV.lit (Value.string ⟨#[76, 65, 78, 68]⟩))]) 7) ∧
((fEnt Tryd.prog 63) ∧
(fAllV fun _ => ((AV.isSl (AV.refSl (AV.mkRef [(AV.lit (Value.string ⟨#[72, 69, 73, 71, 72, 84]⟩)), (AV.lit (Value.string ⟨#[72, 69, 65, 68, 73, 78, 71]⟩)), (AV.lit (Value.string ⟨#[83, 80, 69, 69, 68]⟩)), (AV.lit (Value.string ⟨#[68, 73, 82, 69, 67, 84]⟩)), (AV.lit (Value.string ⟨#[72, 79, 76, 68]⟩)), (AV.lit (Value.string ⟨#[67, 79, 78, 84, 65, 67, 84]⟩)), (AV.lit (Value.string ⟨#[76, 65, 78, 68]⟩))])) 1) ∧
(fLoop 513 [(AV.int 0)] fun ys513 again513 =>
  ((AV.binOk Go.BinOp.lss (ys513.getD 0 default) (AV.len (AV.refSl (AV.mkRef [(AV.lit (Value.string ⟨#[72, 69, 73, 71, 72, 84]⟩)), (AV.lit (Value.string ⟨#[72, 69, 65, 68, 73, 78, 71]⟩)), (AV.lit (Value.string ⟨#[83, 80, 69, 69, 68]⟩)), (AV.lit (Value.string ⟨#[68, 73, 82, 69, 67, 84]⟩)), (AV.lit (Value.string ⟨#[72, 79, 76, 68]⟩)), (AV.lit (Value.string ⟨#[67, 79, 78, 84, 65, 67, 84]⟩)), (AV.lit (Value.string ⟨#[76, 65, 78, 68]⟩))])))) ∧
  ((AV.isBool (AV.bin Go.BinOp.lss (ys513.getD 0 default) (AV.len (AV.refSl (AV.mkRef [(AV.lit (Value.string ⟨#[72, 69, 73, 71, 72, 84]⟩)), (AV.lit (Value.string ⟨#[72, 69, 65, 68, 73, 78, 71]⟩)), (AV.lit (Value.string ⟨#[83, 80, 69, 69, 68]⟩)), (AV.lit (Value.string ⟨#[68, 73, 82, 69, 67, 84]⟩)), (AV.lit (Value.string ⟨#[72, 79, 76, 68]⟩)), (AV.lit (Value.string ⟨#[67, 79, 78, 84, 65, 67, 84]⟩)), (AV.lit (Value.string ⟨#[76, 65, 78, 68]⟩))]))))) ∧
  (((isT (AV.bin Go.BinOp.lss (ys513.getD 0 default) (AV.len (AV.refSl (AV.mkRef [(AV.lit (Value.string ⟨#[72, 69, 73, 71, 72, 84]⟩)), (AV.lit (Value.string ⟨#[72, 69, 65, 68, 73, 78, 71]⟩)), (AV.lit (Value.string ⟨#[83, 80, 69, 69, 68]⟩)), (AV.lit (Value.string ⟨#[68, 73, 82, 69, 67, 84]⟩)), (AV.lit (Value.string ⟨#[72, 79, 76, 68]⟩)), (AV.lit (Value.string ⟨#[67, 79, 78, 84, 65, 67, 84]⟩)), (AV.lit (Value.string ⟨#[76, 65, 78, 68]⟩))]))))) →
    ((AV.isSl (AV.refSl (AV.mkRef [(AV.lit (Value.string ⟨#[72, 69, 73, 71, 72, 84]⟩)), (AV.lit (Value.string ⟨#[72, 69, 65, 68, 73, 78, 71]⟩)), (AV.lit (Value.string ⟨#[83, 80, 69, 69, 68]⟩)), (AV.lit (Value.string ⟨#[68, 73, 82, 69, 67, 84]⟩)), (AV.lit (Value.string ⟨#[72, 79, 76, 68]⟩)), (AV.lit (Value.string ⟨#[67, 79, 78, 84, 65, 67, 84]⟩)), (AV.lit (Value.string ⟨#[76, 65, 78, 68]⟩))])) 1) ∧
    ((AV.inb (AV.refSl (AV.mkRef [(AV.lit (Value.string ⟨#[72, 69, 73, 71, 72, 84]⟩)), (AV.lit (Value.string ⟨#[72, 69, 65, 68, 73, 78, 71]⟩)), (AV.lit (Value.string ⟨#[83, 80, 69, 69, 68]⟩)), (AV.lit (Value.string ⟨#[68, 73, 82, 69, 67, 84]⟩)), (AV.lit (Value.string ⟨#[72, 79, 76, 68]⟩)), (AV.lit (Value.string ⟨#[67, 79, 78, 84, 65, 67, 84]⟩)), (AV.lit (Value.string ⟨#[76, 65, 78, 68]⟩))])) (ys513.getD 0 default)) ∧
    ((AV.binOk Go.BinOp.eql x0 (AV.at (AV.refSl (AV.mkRef [(AV.lit (Value.string ⟨#[72, 69, 73, 71, 72, 84]⟩)), (AV.lit (Value.string ⟨#[72, 69, 65, 68, 73, 78, 71]⟩)), (AV.lit (Value.string ⟨#[83, 80, 69, 69, 68]⟩)), (AV.lit (Value.string ⟨#[68, 73, 82, 69, 67, 84]⟩)), (AV.lit (Value.string ⟨#[72, 79, 76, 68]⟩)), (AV.lit (Value.string ⟨#[67, 79, 78, 84, 65, 67, 84]⟩)), (AV.lit (Value.string ⟨#[76, 65, 78, 68]⟩))])) (ys513.getD 0 default) 0)) ∧
    ((AV.isBool (AV.bin Go.BinOp.eql x0 (AV.at (AV.refSl (AV.mkRef [(AV.lit (Value.string ⟨#[72, 69, 73, 71, 72, 84]⟩)), (AV.lit (Value.string ⟨#[72, 69, 65, 68, 73, 78, 71]⟩)), (AV.lit (Value.string ⟨#[83, 80, 69, 69, 68]⟩)), (AV.lit (Value.string ⟨#[68, 73, 82, 69, 67, 84]⟩)), (AV.lit (Value.string ⟨#[72, 79, 76, 68]⟩)), (AV.lit (Value.string ⟨#[67, 79, 78, 84, 65, 67, 84]⟩)), (AV.lit (Value.string ⟨#[76, 65, 78, 68]⟩))])) (ys513.getD 0 default) 0))) ∧
    (((isT (AV.bin Go.BinOp.eql x0 (AV.at (AV.refSl (AV.mkRef [(AV.lit (Value.string ⟨#[72, 69, 73, 71, 72, 84]⟩)), (AV.lit (Value.string ⟨#[72, 69, 65, 68, 73, 78, 71]⟩)), (AV.lit (Value.string ⟨#[83, 80, 69, 69, 68]⟩)), (AV.lit (Value.string ⟨#[68, 73, 82, 69, 67, 84]⟩)), (AV.lit (Value.string ⟨#[72, 79, 76, 68]⟩)), (AV.lit (Value.string ⟨#[67, 79, 78, 84, 65, 67, 84]⟩)), (AV.lit (Value.string ⟨#[76, 65, 78, 68]⟩))])) (ys513.getD 0 default) 0))) →
      ((AV.flat (ys513.getD 0 default)) ∧
      (fSame (ys513.getD 0 default) r))) ∧
    ((isF (AV.bin Go.BinOp.eql x0 (AV.at (AV.refSl (AV.mkRef [(AV.lit (Value.string ⟨#[72, 69, 73, 71, 72, 84]⟩)), (AV.lit (Value.string ⟨#[72, 69, 65, 68, 73, 78, 71]⟩)), (AV.lit (Value.string ⟨#[83, 80, 69, 69, 68]⟩)), (AV.lit (Value.string ⟨#[68, 73, 82, 69, 67, 84]⟩)), (AV.lit (Value.string ⟨#[72, 79, 76, 68]⟩)), (AV.lit (Value.string ⟨#[67, 79, 78, 84, 65, 67, 84]⟩)), (AV.lit (Value.string ⟨#[76, 65, 78, 68]⟩))])) (ys513.getD 0 default) 0))) →
      ((AV.binOk Go.BinOp.add (ys513.getD 0 default) (AV.int 1)) ∧
      (again513 [(AV.bin Go.BinOp.add (ys513.getD 0 default) (AV.int 1))]))))))))) ∧
  ((isF (AV.bin Go.BinOp.lss (ys513.getD 0 default) (AV.len (AV.refSl (AV.mkRef [(AV.lit (Value.string ⟨#[72, 69, 73, 71, 72, 84]⟩)), (AV.lit (Value.string ⟨#[72, 69, 65, 68, 73, 78, 71]⟩)), (AV.lit (Value.string ⟨#[83, 80, 69, 69, 68]⟩)), (AV.lit (Value.string ⟨#[68, 73, 82, 69, 67, 84]⟩)), (AV.lit (Value.string ⟨#[72, 79, 76, 68]⟩)), (AV.lit (Value.string ⟨#[67, 79, 78, 84, 65, 67, 84]⟩)), (AV.lit (Value.string ⟨#[76, 65, 78, 68]⟩))]))))) →
    ((AV.flat (AV.int (-1))) ∧
    (fSame (AV.int (-1)) r)))))))))))) := by kernel_rfl
theorem name_form (x0 r : AV) : fnF Tryd.prog Γ ann 3 28 Tryd.f28 (Tryd.f28.body.getD .skip) (.nil) [x0] (.sc) r = ((∃ r129 : AV, ((Fn Tryd.prog 30 [x0] Sh.sc r129) ∧
((AV.isBool r129) ∧
(((isT r129) →
  (∃ r321 : AV, ((Fn Tryd.prog 44 [x0] Sh.sc r321) ∧
  ((AV.binOk Go.BinOp.lss r321 (AV.int 0)) ∧
  ((AV.isBool r129) ∧
  ((isT r129) ∧
  ((AV.flat (AV.bin Go.BinOp.lss r321 (AV.int 0))) ∧
  (fSame (AV.bin Go.BinOp.lss r321 (AV.int 0)) r)))))))) ∧
((isF r129) →
  ((AV.isBool r129) ∧
  ((isF r129) ∧
  ((AV.flat (AV.bool false)) ∧
  (fSame (AV.bool false) r)))))))))) := by kernel_rfl
theorem check_form (x0 r : AV) : fnF Tryd.prog Γ ann 3 16 Tryd.f16 (Tryd.f16.body.getD .skip) (.nil) [x0] (.sc) r = (((AV.isAgg x0 4) ∧
(∃ r257 : AV, ((Fn Tryd.prog 28 [(AV.cel x0 0)] Sh.sc r257) ∧
((AV.unOk Go.UnOp.not r257) ∧
((AV.isBool (AV.un Go.UnOp.not r257)) ∧
(((isT (AV.un Go.UnOp.not r257)) →
  ((AV.flat (AV.int 3)) ∧
  (fSame (AV.int 3) r))) ∧
((isF (AV.un Go.UnOp.not r257)) →
  ((AV.binOk Go.BinOp.lss (AV.cel x0 1) (AV.int 0)) ∧
  ((AV.isBool (AV.bin Go.BinOp.lss (AV.cel x0 1) (AV.int 0))) ∧
  (((isT (AV.bin Go.BinOp.lss (AV.cel x0 1) (AV.int 0))) →
    ((AV.isBool (AV.bin Go.BinOp.lss (AV.cel x0 1) (AV.int 0))) ∧
    ((isT (AV.bin Go.BinOp.lss (AV.cel x0 1) (AV.int 0))) ∧
    ((AV.flat (AV.int 1)) ∧
    (fSame (AV.int 1) r))))) ∧
  ((isF (AV.bin Go.BinOp.lss (AV.cel x0 1) (AV.int 0))) →
    ((AV.binOk Go.BinOp.gtr (AV.cel x0 1) (AV.int 6)) ∧
    ((AV.isBool (AV.bin Go.BinOp.lss (AV.cel x0 1) (AV.int 0))) ∧
    ((isF (AV.bin Go.BinOp.lss (AV.cel x0 1) (AV.int 0))) ∧
    ((AV.isBool (AV.bin Go.BinOp.gtr (AV.cel x0 1) (AV.int 6))) ∧
    (((isT (AV.bin Go.BinOp.gtr (AV.cel x0 1) (AV.int 6))) →
      ((AV.flat (AV.int 1)) ∧
      (fSame (AV.int 1) r))) ∧
    ((isF (AV.bin Go.BinOp.gtr (AV.cel x0 1) (AV.int 6))) →
      ((AV.binOk Go.BinOp.gtr (AV.cel x0 1) (AV.int 2)) ∧
      ((AV.isBool (AV.bin Go.BinOp.gtr (AV.cel x0 1) (AV.int 2))) ∧
      (((isT (AV.bin Go.BinOp.gtr (AV.cel x0 1) (AV.int 2))) →
        ((AV.binOk Go.BinOp.neq (AV.cel x0 2) (AV.int 0)) ∧
        ((AV.isBool (AV.bin Go.BinOp.neq (AV.cel x0 2) (AV.int 0))) ∧
        (((isT (AV.bin Go.BinOp.neq (AV.cel x0 2) (AV.int 0))) →
          ((AV.isBool (AV.bin Go.BinOp.neq (AV.cel x0 2) (AV.int 0))) ∧
          ((isT (AV.bin Go.BinOp.neq (AV.cel x0 2) (AV.int 0))) ∧
          ((AV.flat (AV.int 3)) ∧
          (fSame (AV.int 3) r))))) ∧
        ((isF (AV.bin Go.BinOp.neq (AV.cel x0 2) (AV.int 0))) →
          (∃ r1665 : AV, ((Fn Tryd.prog 28 [(AV.cel x0 3)] Sh.sc r1665) ∧
          ((AV.unOk Go.UnOp.not r1665) ∧
          ((AV.isBool (AV.bin Go.BinOp.neq (AV.cel x0 2) (AV.int 0))) ∧
          ((isF (AV.bin Go.BinOp.neq (AV.cel x0 2) (AV.int 0))) ∧
          ((AV.isBool (AV.un Go.UnOp.not r1665)) ∧
          (((isT (AV.un Go.UnOp.not r1665)) →
            ((AV.flat (AV.int 3)) ∧
            (fSame (AV.int 3) r))) ∧
          ((isF (AV.un Go.UnOp.not r1665)) →
            ((AV.flat (AV.int 0)) ∧
            (fSame (AV.int 0) r))))))))))))))) ∧
      ((isF (AV.bin Go.BinOp.gtr (AV.cel x0 1) (AV.int 2))) →
        ((AV.binOk Go.BinOp.neq (AV.cel x0 3) (AV.lit (Value.string ⟨#[]⟩))) ∧
        ((AV.isBool (AV.bin Go.BinOp.neq (AV.cel x0 3) (AV.lit (Value.string ⟨#[]⟩)))) ∧
        (((isT (AV.bin Go.BinOp.neq (AV.cel x0 3) (AV.lit (Value.string ⟨#[]⟩)))) →
          ((AV.flat (AV.int 3)) ∧
          (fSame (AV.int 3) r))) ∧
        ((isF (AV.bin Go.BinOp.neq (AV.cel x0 3) (AV.lit (Value.string ⟨#[]⟩)))) →
          ((AV.binOk Go.BinOp.lss (AV.cel x0 2) (AV.int 0)) ∧
          ((AV.isBool (AV.bin Go.BinOp.lss (AV.cel x0 2) (AV.int 0))) ∧
          (((isT (AV.bin Go.BinOp.lss (AV.cel x0 2) (AV.int 0))) →
            ((AV.isBool (AV.bin Go.BinOp.lss (AV.cel x0 2) (AV.int 0))) ∧
            ((isT (AV.bin Go.BinOp.lss (AV.cel x0 2) (AV.int 0))) ∧
            ((AV.flat (AV.int 4)) ∧
            (fSame (AV.int 4) r))))) ∧
          ((isF (AV.bin Go.BinOp.lss (AV.cel x0 2) (AV.int 0))) →
            ((AV.inl 3 (AV.cel x0 1)) ∧
            ((AV.isRef (AV.mkRef [(AV.int 60000), (AV.int 4095), (AV.int 400)]) 3) ∧
            ((AV.refOk (AV.mkRef [(AV.int 60000), (AV.int 4095), (AV.int 400)]) 3 0 [((AV.cel x0 1), 1)]) ∧
            ((AV.binOk Go.BinOp.gtr (AV.cel x0 2) (AV.refNth (AV.mkRef [(AV.int 60000), (AV.int 4095), (AV.int 400)]) 0 [((AV.cel x0 1), 1)])) ∧
            ((AV.isBool (AV.bin Go.BinOp.lss (AV.cel x0 2) (AV.int 0))) ∧
            ((isF (AV.bin Go.BinOp.lss (AV.cel x0 2) (AV.int 0))) ∧
            ((AV.isBool (AV.bin Go.BinOp.gtr (AV.cel x0 2) (AV.refNth (AV.mkRef [(AV.int 60000), (AV.int 4095), (AV.int 400)]) 0 [((AV.cel x0 1), 1)]))) ∧
            (((isT (AV.bin Go.BinOp.gtr (AV.cel x0 2) (AV.refNth (AV.mkRef [(AV.int 60000), (AV.int 4095), (AV.int 400)]) 0 [((AV.cel x0 1), 1)]))) →
              ((AV.flat (AV.int 4)) ∧
              (fSame (AV.int 4) r))) ∧
            ((isF (AV.bin Go.BinOp.gtr (AV.cel x0 2) (AV.refNth (AV.mkRef [(AV.int 60000), (AV.int 4095), (AV.int 400)]) 0 [((AV.cel x0 1), 1)]))) →
              ((AV.flat (AV.int 0)) ∧
              (fSame (AV.int 0) r))))))))))))))))))))))))))))))))))))))))) := by kernel_rfl
theorem word_form (x0 r : AV) : fnF Tryd.prog Γ ann 3 56 Tryd.f56 (Tryd.f56.body.getD .skip) (.nil) [x0] (.sc) r = (((AV.inb (AV.mk 1 [[(AV.lit (Value.string ⟨#[72, 69, 73, 71, 72, 84]⟩))], [(AV.lit (Value.string ⟨#[72, 69, 65, 68, 73, 78, 71]⟩))], [(AV.lit (Value.string ⟨#[83, 80, 69, 69, 68]⟩))], [(AV.lit (Value.string ⟨#[68, 73, 82, 69, 67, 84]⟩))], [(AV.lit (Value.string ⟨#[72, 79, 76, 68]⟩))], [(AV.lit (Value.string ⟨#[67, 79, 78, 84, 65, 67, 84]⟩))], [(AV.lit (Value.string ⟨#[76, 65, 78, 68]⟩))]]) x0) ∧
((AV.inb (AV.mk 1 [[(AV.lit (Value.string ⟨#[72, 69, 73, 71, 72, 84]⟩))], [(AV.lit (Value.string ⟨#[72, 69, 65, 68, 73, 78, 71]⟩))], [(AV.lit (Value.string ⟨#[83, 80, 69, 69, 68]⟩))], [(AV.lit (Value.string ⟨#[68, 73, 82, 69, 67, 84]⟩))], [(AV.lit (Value.string ⟨#[72, 79, 76, 68]⟩))], [(AV.lit (Value.string ⟨#[67, 79, 78, 84, 65, 67, 84]⟩))], [(AV.lit (Value.string ⟨#[76, 65, 78, 68]⟩))]]) x0) ∧
((AV.flat (AV.at (AV.mk 1 [[(AV.lit (Value.string ⟨#[72, 69, 73, 71, 72, 84]⟩))], [(AV.lit (Value.string ⟨#[72, 69, 65, 68, 73, 78, 71]⟩))], [(AV.lit (Value.string ⟨#[83, 80, 69, 69, 68]⟩))], [(AV.lit (Value.string ⟨#[68, 73, 82, 69, 67, 84]⟩))], [(AV.lit (Value.string ⟨#[72, 79, 76, 68]⟩))], [(AV.lit (Value.string ⟨#[67, 79, 78, 84, 65, 67, 84]⟩))], [(AV.lit (Value.string ⟨#[76, 65, 78, 68]⟩))]]) x0 0)) ∧
(fSame (AV.at (AV.mk 1 [[(AV.lit (Value.string ⟨#[72, 69, 73, 71, 72, 84]⟩))], [(AV.lit (Value.string ⟨#[72, 69, 65, 68, 73, 78, 71]⟩))], [(AV.lit (Value.string ⟨#[83, 80, 69, 69, 68]⟩))], [(AV.lit (Value.string ⟨#[68, 73, 82, 69, 67, 84]⟩))], [(AV.lit (Value.string ⟨#[72, 79, 76, 68]⟩))], [(AV.lit (Value.string ⟨#[67, 79, 78, 84, 65, 67, 84]⟩))], [(AV.lit (Value.string ⟨#[76, 65, 78, 68]⟩))]]) x0 0) r))))) := by kernel_rfl
theorem free_form (x0 r : AV) : fnF Tryd.prog Γ ann 3 38 Tryd.f38 (Tryd.f38.body.getD .skip) (.nil) [x0] (.sc) r = ((fLoop 129 [(AV.int 0)] fun ys129 again129 =>
  ((AV.binOk Go.BinOp.lss (ys129.getD 0 default) (AV.int 7)) ∧
  ((AV.isBool (AV.bin Go.BinOp.lss (ys129.getD 0 default) (AV.int 7))) ∧
  (((isT (AV.bin Go.BinOp.lss (ys129.getD 0 default) (AV.int 7))) →
    (∃ r385 : AV, ((Fn Tryd.prog 56 [(ys129.getD 0 default)] Sh.sc r385) ∧
    ((AV.binOk Go.BinOp.eql r385 x0) ∧
    ((AV.isBool (AV.bin Go.BinOp.eql r385 x0)) ∧
    (((isT (AV.bin Go.BinOp.eql r385 x0)) →
      ((AV.flat (AV.bool false)) ∧
      (fSame (AV.bool false) r))) ∧
    ((isF (AV.bin Go.BinOp.eql r385 x0)) →
      ((AV.binOk Go.BinOp.add (ys129.getD 0 default) (AV.int 1)) ∧
      (again129 [(AV.bin Go.BinOp.add (ys129.getD 0 default) (AV.int 1))]))))))))) ∧
  ((isF (AV.bin Go.BinOp.lss (ys129.getD 0 default) (AV.int 7))) →
    (∃ r257 : AV, ((Fn Tryd.prog 57 [x0] Sh.sc r257) ∧
    ((AV.flat r257) ∧
    (fSame r257 r)))))))))) := by kernel_rfl
theorem cerr_form (x0 r : AV) : fnF Tryd.prog Γ ann 3 25 Tryd.f25 (Tryd.f25.body.getD .skip) ((.both .nil (.both .nil (.both .nil (.both (.both .nil (.both .nil (.f (.f .nil)))) (.t (.both .nil (.t .nil)))))))) [x0] (.sc) r = (((AV.isAgg x0 4) ∧
(∃ r257 : AV, ((Fn Tryd.prog 38 [(AV.cel x0 0)] Sh.sc r257) ∧
((AV.unOk Go.UnOp.not r257) ∧
((AV.isBool (AV.un Go.UnOp.not r257)) ∧
(((isT (AV.un Go.UnOp.not r257)) →
  ((AV.flat (AV.int 3)) ∧
  (fSame (AV.int 3) r))) ∧
((isF (AV.un Go.UnOp.not r257)) →
  ((AV.binOk Go.BinOp.lss (AV.cel x0 1) (AV.int 0)) ∧
  ((AV.isBool (AV.bin Go.BinOp.lss (AV.cel x0 1) (AV.int 0))) ∧
  (((isT (AV.bin Go.BinOp.lss (AV.cel x0 1) (AV.int 0))) →
    ((AV.isBool (AV.bin Go.BinOp.lss (AV.cel x0 1) (AV.int 0))) ∧
    ((isT (AV.bin Go.BinOp.lss (AV.cel x0 1) (AV.int 0))) ∧
    ((AV.flat (AV.int 1)) ∧
    (fSame (AV.int 1) r))))) ∧
  ((isF (AV.bin Go.BinOp.lss (AV.cel x0 1) (AV.int 0))) →
    ((AV.binOk Go.BinOp.gtr (AV.cel x0 1) (AV.int 6)) ∧
    ((AV.isBool (AV.bin Go.BinOp.lss (AV.cel x0 1) (AV.int 0))) ∧
    ((isF (AV.bin Go.BinOp.lss (AV.cel x0 1) (AV.int 0))) ∧
    ((AV.isBool (AV.bin Go.BinOp.gtr (AV.cel x0 1) (AV.int 6))) ∧
    (((isT (AV.bin Go.BinOp.gtr (AV.cel x0 1) (AV.int 6))) →
      ((AV.flat (AV.int 1)) ∧
      (fSame (AV.int 1) r))) ∧
    ((isF (AV.bin Go.BinOp.gtr (AV.cel x0 1) (AV.int 6))) →
      ((AV.inb (AV.mk 1 [[(AV.int 60000)], [(AV.int 4095)], [(AV.int 400)], [(AV.int (-1))], [(AV.int (-1))], [(AV.int (-1))], [(AV.int (-1))]]) (AV.cel x0 1)) ∧
      ((AV.inb (AV.mk 1 [[(AV.int 60000)], [(AV.int 4095)], [(AV.int 400)], [(AV.int (-1))], [(AV.int (-1))], [(AV.int (-1))], [(AV.int (-1))]]) (AV.cel x0 1)) ∧
      ((AV.binOk Go.BinOp.lss (AV.at (AV.mk 1 [[(AV.int 60000)], [(AV.int 4095)], [(AV.int 400)], [(AV.int (-1))], [(AV.int (-1))], [(AV.int (-1))], [(AV.int (-1))]]) (AV.cel x0 1) 0) (AV.int 0)) ∧
      ((AV.isBool (AV.bin Go.BinOp.lss (AV.at (AV.mk 1 [[(AV.int 60000)], [(AV.int 4095)], [(AV.int 400)], [(AV.int (-1))], [(AV.int (-1))], [(AV.int (-1))], [(AV.int (-1))]]) (AV.cel x0 1) 0) (AV.int 0))) ∧
      (((isT (AV.bin Go.BinOp.lss (AV.at (AV.mk 1 [[(AV.int 60000)], [(AV.int 4095)], [(AV.int 400)], [(AV.int (-1))], [(AV.int (-1))], [(AV.int (-1))], [(AV.int (-1))]]) (AV.cel x0 1) 0) (AV.int 0))) →
        ((AV.binOk Go.BinOp.neq (AV.cel x0 2) (AV.int 0)) ∧
        ((AV.isBool (AV.bin Go.BinOp.neq (AV.cel x0 2) (AV.int 0))) ∧
        (((isT (AV.bin Go.BinOp.neq (AV.cel x0 2) (AV.int 0))) →
          ((AV.isBool (AV.bin Go.BinOp.neq (AV.cel x0 2) (AV.int 0))) ∧
          ((isT (AV.bin Go.BinOp.neq (AV.cel x0 2) (AV.int 0))) ∧
          ((AV.isBool (AV.bin Go.BinOp.lss (AV.at (AV.mk 1 [[(AV.int 60000)], [(AV.int 4095)], [(AV.int 400)], [(AV.int (-1))], [(AV.int (-1))], [(AV.int (-1))], [(AV.int (-1))]]) (AV.cel x0 1) 0) (AV.int 0))) ∧
          ((isT (AV.bin Go.BinOp.lss (AV.at (AV.mk 1 [[(AV.int 60000)], [(AV.int 4095)], [(AV.int 400)], [(AV.int (-1))], [(AV.int (-1))], [(AV.int (-1))], [(AV.int (-1))]]) (AV.cel x0 1) 0) (AV.int 0))) ∧
          ((AV.flat (AV.int 3)) ∧
          (fSame (AV.int 3) r))))))) ∧
        ((isF (AV.bin Go.BinOp.neq (AV.cel x0 2) (AV.int 0))) →
          (∃ r1857 : AV, ((Fn Tryd.prog 38 [(AV.cel x0 3)] Sh.sc r1857) ∧
          ((AV.unOk Go.UnOp.not r1857) ∧
          ((AV.isBool (AV.bin Go.BinOp.neq (AV.cel x0 2) (AV.int 0))) ∧
          ((isF (AV.bin Go.BinOp.neq (AV.cel x0 2) (AV.int 0))) ∧
          ((AV.isBool (AV.bin Go.BinOp.lss (AV.at (AV.mk 1 [[(AV.int 60000)], [(AV.int 4095)], [(AV.int 400)], [(AV.int (-1))], [(AV.int (-1))], [(AV.int (-1))], [(AV.int (-1))]]) (AV.cel x0 1) 0) (AV.int 0))) ∧
          ((isT (AV.bin Go.BinOp.lss (AV.at (AV.mk 1 [[(AV.int 60000)], [(AV.int 4095)], [(AV.int 400)], [(AV.int (-1))], [(AV.int (-1))], [(AV.int (-1))], [(AV.int (-1))]]) (AV.cel x0 1) 0) (AV.int 0))) ∧
          ((AV.isBool (AV.un Go.UnOp.not r1857)) ∧
          (((isT (AV.un Go.UnOp.not r1857)) →
            ((AV.isBool (AV.un Go.UnOp.not r1857)) ∧
            ((isT (AV.un Go.UnOp.not r1857)) ∧
            ((AV.flat (AV.int 3)) ∧
            (fSame (AV.int 3) r))))) ∧
          ((isF (AV.un Go.UnOp.not r1857)) →
            ((AV.binOk Go.BinOp.geq (AV.at (AV.mk 1 [[(AV.int 60000)], [(AV.int 4095)], [(AV.int 400)], [(AV.int (-1))], [(AV.int (-1))], [(AV.int (-1))], [(AV.int (-1))]]) (AV.cel x0 1) 0) (AV.int 0)) ∧
            ((AV.isBool (AV.bin Go.BinOp.geq (AV.at (AV.mk 1 [[(AV.int 60000)], [(AV.int 4095)], [(AV.int 400)], [(AV.int (-1))], [(AV.int (-1))], [(AV.int (-1))], [(AV.int (-1))]]) (AV.cel x0 1) 0) (AV.int 0))) ∧
            ((isF (AV.bin Go.BinOp.geq (AV.at (AV.mk 1 [[(AV.int 60000)], [(AV.int 4095)], [(AV.int 400)], [(AV.int (-1))], [(AV.int (-1))], [(AV.int (-1))], [(AV.int (-1))]]) (AV.cel x0 1) 0) (AV.int 0))) ∧
            ((AV.isBool (AV.bin Go.BinOp.geq (AV.at (AV.mk 1 [[(AV.int 60000)], [(AV.int 4095)], [(AV.int 400)], [(AV.int (-1))], [(AV.int (-1))], [(AV.int (-1))], [(AV.int (-1))]]) (AV.cel x0 1) 0) (AV.int 0))) ∧
            ((isF (AV.bin Go.BinOp.geq (AV.at (AV.mk 1 [[(AV.int 60000)], [(AV.int 4095)], [(AV.int 400)], [(AV.int (-1))], [(AV.int (-1))], [(AV.int (-1))], [(AV.int (-1))]]) (AV.cel x0 1) 0) (AV.int 0))) ∧
            ((AV.isBool (AV.un Go.UnOp.not r1857)) ∧
            ((isF (AV.un Go.UnOp.not r1857)) ∧
            ((AV.binOk Go.BinOp.geq (AV.at (AV.mk 1 [[(AV.int 60000)], [(AV.int 4095)], [(AV.int 400)], [(AV.int (-1))], [(AV.int (-1))], [(AV.int (-1))], [(AV.int (-1))]]) (AV.cel x0 1) 0) (AV.int 0)) ∧
            ((AV.isBool (AV.bin Go.BinOp.geq (AV.at (AV.mk 1 [[(AV.int 60000)], [(AV.int 4095)], [(AV.int 400)], [(AV.int (-1))], [(AV.int (-1))], [(AV.int (-1))], [(AV.int (-1))]]) (AV.cel x0 1) 0) (AV.int 0))) ∧
            ((isF (AV.bin Go.BinOp.geq (AV.at (AV.mk 1 [[(AV.int 60000)], [(AV.int 4095)], [(AV.int 400)], [(AV.int (-1))], [(AV.int (-1))], [(AV.int (-1))], [(AV.int (-1))]]) (AV.cel x0 1) 0) (AV.int 0))) ∧
            ((AV.isBool (AV.bin Go.BinOp.geq (AV.at (AV.mk 1 [[(AV.int 60000)], [(AV.int 4095)], [(AV.int 400)], [(AV.int (-1))], [(AV.int (-1))], [(AV.int (-1))], [(AV.int (-1))]]) (AV.cel x0 1) 0) (AV.int 0))) ∧
            ((isF (AV.bin Go.BinOp.geq (AV.at (AV.mk 1 [[(AV.int 60000)], [(AV.int 4095)], [(AV.int 400)], [(AV.int (-1))], [(AV.int (-1))], [(AV.int (-1))], [(AV.int (-1))]]) (AV.cel x0 1) 0) (AV.int 0))) ∧
            ((AV.flat (AV.int 0)) ∧
            (fSame (AV.int 0) r))))))))))))))))))))))))))))) ∧
      ((isF (AV.bin Go.BinOp.lss (AV.at (AV.mk 1 [[(AV.int 60000)], [(AV.int 4095)], [(AV.int 400)], [(AV.int (-1))], [(AV.int (-1))], [(AV.int (-1))], [(AV.int (-1))]]) (AV.cel x0 1) 0) (AV.int 0))) →
        ((AV.isBool (AV.bin Go.BinOp.lss (AV.at (AV.mk 1 [[(AV.int 60000)], [(AV.int 4095)], [(AV.int 400)], [(AV.int (-1))], [(AV.int (-1))], [(AV.int (-1))], [(AV.int (-1))]]) (AV.cel x0 1) 0) (AV.int 0))) ∧
        ((isF (AV.bin Go.BinOp.lss (AV.at (AV.mk 1 [[(AV.int 60000)], [(AV.int 4095)], [(AV.int 400)], [(AV.int (-1))], [(AV.int (-1))], [(AV.int (-1))], [(AV.int (-1))]]) (AV.cel x0 1) 0) (AV.int 0))) ∧
        ((AV.binOk Go.BinOp.geq (AV.at (AV.mk 1 [[(AV.int 60000)], [(AV.int 4095)], [(AV.int 400)], [(AV.int (-1))], [(AV.int (-1))], [(AV.int (-1))], [(AV.int (-1))]]) (AV.cel x0 1) 0) (AV.int 0)) ∧
        ((AV.isBool (AV.bin Go.BinOp.geq (AV.at (AV.mk 1 [[(AV.int 60000)], [(AV.int 4095)], [(AV.int 400)], [(AV.int (-1))], [(AV.int (-1))], [(AV.int (-1))], [(AV.int (-1))]]) (AV.cel x0 1) 0) (AV.int 0))) ∧
        ((isT (AV.bin Go.BinOp.geq (AV.at (AV.mk 1 [[(AV.int 60000)], [(AV.int 4095)], [(AV.int 400)], [(AV.int (-1))], [(AV.int (-1))], [(AV.int (-1))], [(AV.int (-1))]]) (AV.cel x0 1) 0) (AV.int 0))) ∧
        ((AV.binOk Go.BinOp.neq (AV.cel x0 3) (AV.lit (Value.string ⟨#[]⟩))) ∧
        ((AV.isBool (AV.bin Go.BinOp.geq (AV.at (AV.mk 1 [[(AV.int 60000)], [(AV.int 4095)], [(AV.int 400)], [(AV.int (-1))], [(AV.int (-1))], [(AV.int (-1))], [(AV.int (-1))]]) (AV.cel x0 1) 0) (AV.int 0))) ∧
        ((isT (AV.bin Go.BinOp.geq (AV.at (AV.mk 1 [[(AV.int 60000)], [(AV.int 4095)], [(AV.int 400)], [(AV.int (-1))], [(AV.int (-1))], [(AV.int (-1))], [(AV.int (-1))]]) (AV.cel x0 1) 0) (AV.int 0))) ∧
        ((AV.isBool (AV.bin Go.BinOp.neq (AV.cel x0 3) (AV.lit (Value.string ⟨#[]⟩)))) ∧
        (((isT (AV.bin Go.BinOp.neq (AV.cel x0 3) (AV.lit (Value.string ⟨#[]⟩)))) →
          ((AV.flat (AV.int 3)) ∧
          (fSame (AV.int 3) r))) ∧
        ((isF (AV.bin Go.BinOp.neq (AV.cel x0 3) (AV.lit (Value.string ⟨#[]⟩)))) →
          ((AV.binOk Go.BinOp.geq (AV.at (AV.mk 1 [[(AV.int 60000)], [(AV.int 4095)], [(AV.int 400)], [(AV.int (-1))], [(AV.int (-1))], [(AV.int (-1))], [(AV.int (-1))]]) (AV.cel x0 1) 0) (AV.int 0)) ∧
          ((AV.isBool (AV.bin Go.BinOp.geq (AV.at (AV.mk 1 [[(AV.int 60000)], [(AV.int 4095)], [(AV.int 400)], [(AV.int (-1))], [(AV.int (-1))], [(AV.int (-1))], [(AV.int (-1))]]) (AV.cel x0 1) 0) (AV.int 0))) ∧
          ((isT (AV.bin Go.BinOp.geq (AV.at (AV.mk 1 [[(AV.int 60000)], [(AV.int 4095)], [(AV.int 400)], [(AV.int (-1))], [(AV.int (-1))], [(AV.int (-1))], [(AV.int (-1))]]) (AV.cel x0 1) 0) (AV.int 0))) ∧
          ((AV.binOk Go.BinOp.lss (AV.cel x0 2) (AV.int 0)) ∧
          ((AV.isBool (AV.bin Go.BinOp.lss (AV.cel x0 2) (AV.int 0))) ∧
          (((isT (AV.bin Go.BinOp.lss (AV.cel x0 2) (AV.int 0))) →
            ((AV.isBool (AV.bin Go.BinOp.lss (AV.cel x0 2) (AV.int 0))) ∧
            ((isT (AV.bin Go.BinOp.lss (AV.cel x0 2) (AV.int 0))) ∧
            ((AV.isBool (AV.bin Go.BinOp.geq (AV.at (AV.mk 1 [[(AV.int 60000)], [(AV.int 4095)], [(AV.int 400)], [(AV.int (-1))], [(AV.int (-1))], [(AV.int (-1))], [(AV.int (-1))]]) (AV.cel x0 1) 0) (AV.int 0))) ∧
            ((isT (AV.bin Go.BinOp.geq (AV.at (AV.mk 1 [[(AV.int 60000)], [(AV.int 4095)], [(AV.int 400)], [(AV.int (-1))], [(AV.int (-1))], [(AV.int (-1))], [(AV.int (-1))]]) (AV.cel x0 1) 0) (AV.int 0))) ∧
            ((AV.flat (AV.int 4)) ∧
            (fSame (AV.int 4) r))))))) ∧
          ((isF (AV.bin Go.BinOp.lss (AV.cel x0 2) (AV.int 0))) →
            ((AV.binOk Go.BinOp.gtr (AV.cel x0 2) (AV.at (AV.mk 1 [[(AV.int 60000)], [(AV.int 4095)], [(AV.int 400)], [(AV.int (-1))], [(AV.int (-1))], [(AV.int (-1))], [(AV.int (-1))]]) (AV.cel x0 1) 0)) ∧
            ((AV.isBool (AV.bin Go.BinOp.lss (AV.cel x0 2) (AV.int 0))) ∧
            ((isF (AV.bin Go.BinOp.lss (AV.cel x0 2) (AV.int 0))) ∧
            ((AV.isBool (AV.bin Go.BinOp.geq (AV.at (AV.mk 1 [[(AV.int 60000)], [(AV.int 4095)], [(AV.int 400)], [(AV.int (-1))], [(AV.int (-1))], [(AV.int (-1))], [(AV.int (-1))]]) (AV.cel x0 1) 0) (AV.int 0))) ∧
            ((isT (AV.bin Go.BinOp.geq (AV.at (AV.mk 1 [[(AV.int 60000)], [(AV.int 4095)], [(AV.int 400)], [(AV.int (-1))], [(AV.int (-1))], [(AV.int (-1))], [(AV.int (-1))]]) (AV.cel x0 1) 0) (AV.int 0))) ∧
            ((AV.isBool (AV.bin Go.BinOp.gtr (AV.cel x0 2) (AV.at (AV.mk 1 [[(AV.int 60000)], [(AV.int 4095)], [(AV.int 400)], [(AV.int (-1))], [(AV.int (-1))], [(AV.int (-1))], [(AV.int (-1))]]) (AV.cel x0 1) 0))) ∧
            (((isT (AV.bin Go.BinOp.gtr (AV.cel x0 2) (AV.at (AV.mk 1 [[(AV.int 60000)], [(AV.int 4095)], [(AV.int 400)], [(AV.int (-1))], [(AV.int (-1))], [(AV.int (-1))], [(AV.int (-1))]]) (AV.cel x0 1) 0))) →
              ((AV.flat (AV.int 4)) ∧
              (fSame (AV.int 4) r))) ∧
            ((isF (AV.bin Go.BinOp.gtr (AV.cel x0 2) (AV.at (AV.mk 1 [[(AV.int 60000)], [(AV.int 4095)], [(AV.int 400)], [(AV.int (-1))], [(AV.int (-1))], [(AV.int (-1))], [(AV.int (-1))]]) (AV.cel x0 1) 0))) →
              ((AV.flat (AV.int 0)) ∧
              (fSame (AV.int 0) r)))))))))))))))))))))))))))))))))))))))))))))))))))) := by kernel_rfl
end RbF
end Go.Proofs.YtdlakpomcafemaaDoor
/- phrase: what is checked. -/
namespace Go.Proofs.YtdlakpomcafemaaDoor
open Go.RowKit
set_option linter.unusedVariables false
set_option linter.unusedSimpArgs false
set_option maxRecDepth 100000
def wds : List ByteArray := [⟨#[72, 69, 73, 71, 72, 84]⟩, ⟨#[72, 69, 65, 68, 73, 78, 71]⟩, ⟨#[83, 80, 69, 69, 68]⟩, ⟨#[68, 73, 82, 69, 67, 84]⟩, ⟨#[72, 79, 76, 68]⟩, ⟨#[67, 79, 78, 84, 65, 67, 84]⟩, ⟨#[76, 65, 78, 68]⟩]
def encS (x : ByteArray) : List AV := [.string x]
theorem wds_ref : AV.refSl (.ref [.lit (.string ⟨#[72, 69, 73, 71, 72, 84]⟩), .lit (.string ⟨#[72, 69, 65, 68, 73, 78, 71]⟩), .lit (.string ⟨#[83, 80, 69, 69, 68]⟩), .lit (.string ⟨#[68, 73, 82, 69, 67, 84]⟩), .lit (.string ⟨#[72, 79, 76, 68]⟩), .lit (.string ⟨#[67, 79, 78, 84, 65, 67, 84]⟩), .lit (.string ⟨#[76, 65, 78, 68]⟩)]) = lst 1 encS wds := rfl
theorem wds_isref : AV.isRef (.ref [.lit (.string ⟨#[72, 69, 73, 71, 72, 84]⟩), .lit (.string ⟨#[72, 69, 65, 68, 73, 78, 71]⟩), .lit (.string ⟨#[83, 80, 69, 69, 68]⟩), .lit (.string ⟨#[68, 73, 82, 69, 67, 84]⟩), .lit (.string ⟨#[72, 79, 76, 68]⟩), .lit (.string ⟨#[67, 79, 78, 84, 65, 67, 84]⟩), .lit (.string ⟨#[76, 65, 78, 68]⟩)]) 7 := ⟨_, rfl, rfl⟩
theorem wds_sl : AV.sl 1 [[.lit (.string ⟨#[72, 69, 73, 71, 72, 84]⟩)], [.lit (.string ⟨#[72, 69, 65, 68, 73, 78, 71]⟩)], [.lit (.string ⟨#[83, 80, 69, 69, 68]⟩)], [.lit (.string ⟨#[68, 73, 82, 69, 67, 84]⟩)], [.lit (.string ⟨#[72, 79, 76, 68]⟩)], [.lit (.string ⟨#[67, 79, 78, 84, 65, 67, 84]⟩)], [.lit (.string ⟨#[76, 65, 78, 68]⟩)]] = lst 1 encS wds := rfl
theorem wds_len : wds.length = 7 := rfl
def isW (s w : ByteArray) : Bool := decide (s = w)
def kindI (s : ByteArray) : Int := idxN (isW s) 0 wds
theorem kind_fn (s : ByteArray) : Fn Tryd.prog 44 [.string s] .sc (.int (kindI s)) := by
  refine fn_run mixed 3 (Γ := RbF.Γ) (ann := RbF.ann) Tryd.func44 rfl Tryd.call44 ((RbF.kind_form _ _).mpr ?_)
  have e1 : Ent Tryd.prog 63 := Tryd.call63
  simp only [av_mkRef, wds_ref]
  refine ⟨wds_isref, e1, fun _ => ?_⟩
  simp
  refine loop_list (σ := Unit) wds (fun n _ => [.int (n : Nat)]) (fun k rest _ => kindI s = idxN (isW s) k rest) () rfl rfl ?_ ?_
  · rintro k x rest _ K hx hr hn hg hK
    rw [wds_len] at hn
    have hw2 : IntKind.i64.wrap ((k : Int) + 1) = (k : Int) + 1 := wrap64 (by omega) (by omega)
    simp [wds_len, show (k : Int) < 7 by omega, lst_at hx, encS, hw2]
    rw [idxN] at hg
    exact ⟨fun h => by rw [hg, if_pos (by simpa [isW] using h)], fun h => hK _ () (by simp) (by rw [hg, if_neg (by simpa [isW] using h)])⟩
  · intro _ K hg
    simp [hg, idxN]
def frS (s : ByteArray) : Bool := isName s && decide (kindI s < 0)
theorem pname_fn (s : ByteArray) : Fn Tryd.prog 28 [.string s] .sc (.bool (frS s)) := by
  refine fn_run mixed 3 (Γ := RbF.Γ) (ann := RbF.ann) Tryd.func28 rfl Tryd.call28 ((RbF.name_form _ _).mpr ?_)
  refine ⟨_, name_fn s, ?_⟩
  simp
  refine ⟨fun h => ⟨_, kind_fn s, ?_⟩, fun h => ?_⟩
  · simp [frS, h]
  · simp [frS, h]
theorem word_fn {k : Nat} {w : ByteArray} (h : wds[k]? = some w) : Fn Tryd.prog 56 [.int (k : Nat)] .sc (.string w) := by
  refine fn_run mixed 3 (Γ := RbF.Γ) (ann := RbF.ann) Tryd.func56 rfl Tryd.call56 ((RbF.word_form _ _).mpr ?_)
  have hk := (List.getElem?_eq_some_iff.1 h).1
  simp only [av_mk, wds_sl]
  simp [hk, lst_at h, encS]
theorem free_fn (s : ByteArray) : Fn Tryd.prog 38 [.string s] .sc (.bool (frS s)) := by
  refine fn_run mixed 3 (Γ := RbF.Γ) (ann := RbF.ann) Tryd.func38 rfl Tryd.call38 ((RbF.free_form _ _).mpr ?_)
  refine loop_list (σ := Unit) wds (fun n _ => [.int (n : Nat)]) (fun k rest _ => kindI s = idxN (isW s) k rest) () rfl rfl ?_ ?_
  · rintro k x rest _ K hx hr hn hg hK
    rw [wds_len] at hn
    have hw2 : IntKind.i64.wrap ((k : Int) + 1) = (k : Int) + 1 := wrap64 (by omega) (by omega)
    simp [show (k : Int) < 7 by omega]
    refine ⟨_, word_fn hx, ?_⟩
    rw [idxN] at hg
    simp [hw2]
    refine ⟨fun h => ?_, fun h => hK _ () (by simp) (by rw [hg, if_neg (by simpa [isW] using fun e : s = x => h e.symm)])⟩
    rw [if_pos (by simpa [isW] using h.symm)] at hg
    simp [frS, hg]
  · intro _ K hg
    rw [wds_len]
    simp
    rw [idxN] at hg
    have e : frS s = isName s := by simp [frS, hg]
    rw [e]
    exact isname_fn s
/-- A clearance. -/
structure Cl where
  c : ByteArray
  k : Int
  v : Int
  f : ByteArray
  deriving DecidableEq, Inhabited
def encL (x : Cl) : List AV := [.string x.c, .int x.k, .int x.v, .string x.f]
abbrev cl (x : Cl) : AV := .agg (encL x)
abbrev cls (l : List Cl) : AV := lst 4 encL l
def mostI (k : Int) : Int := if k = 0 then 60000 else if k = 1 then 4095 else 400
def clE (x : Cl) : Int := if frS x.c = false then 3 else if x.k < 0 ∨ x.k > 6 then 1 else if x.k > 2 then (if x.v ≠ 0 ∨ frS x.f = false then 3 else 0) else if x.f ≠ ⟨#[]⟩ then 3 else if x.v < 0 ∨ x.v > mostI x.k then 4 else 0
theorem pcheck_fn (x : Cl) : Fn Tryd.prog 16 [cl x] .sc (.int (clE x)) := by
  refine fn_run mixed 3 (Γ := RbF.Γ) (ann := RbF.ann) Tryd.func16 rfl Tryd.call16 ((RbF.check_form _ _).mpr ?_)
  obtain ⟨c, k, v, f⟩ := x
  refine ⟨by simp [encL], _, pname_fn c, ?_⟩
  simp [encL]
  refine ⟨fun h => by simp [clE, h], fun h => ?_⟩
  have hc : clE ⟨c, k, v, f⟩ = if k < 0 ∨ k > 6 then 1 else if k > 2 then (if v ≠ 0 ∨ frS f = false then 3 else 0) else if f ≠ ⟨#[]⟩ then 3 else if v < 0 ∨ v > mostI k then 4 else 0 := by simp [clE, h]
  rw [hc]
  refine ⟨fun h1 => ⟨h1, by rw [if_pos (.inl h1)]⟩, fun h1 => ⟨h1, fun h2 => by rw [if_pos (.inr h2)], fun h2 => ?_⟩⟩
  rw [if_neg (by omega)]
  refine ⟨fun h3 => ?_, fun h3 => ?_⟩
  · rw [if_pos h3]
    refine ⟨fun h4 => ⟨h4, by simp [h4]⟩, fun h4 => ⟨_, pname_fn f, ?_⟩⟩
    simp [h4]
  · rw [if_neg (by omega)]
    refine ⟨fun h4 => by rw [if_pos h4], fun h4 => ?_⟩
    rw [if_neg (by simp [h4])]
    have hk : k = 0 ∨ k = 1 ∨ k = 2 := by omega
    refine ⟨fun h5 => ⟨h5, by rw [if_pos (.inl h5)]⟩, fun h5 => ?_⟩
    rcases hk with rfl | rfl | rfl
    all_goals
      simp [AV.inl, AV.refOk, AV.refNth, AV.rcs, AV.off, mostI, h5]
theorem cerr_fn (x : Cl) : Fn Tryd.prog 25 [cl x] .sc (.int (clE x)) := by
  have e := RbF.cerr_form (cl x) (.int (clE x))
  have k := fun h => fn_run mixed 3 (Γ := RbF.Γ) (ann := RbF.ann) Tryd.func25 rfl Tryd.call25 (e.mpr h)
  refine k ?_
  clear k e
  obtain ⟨c, k, v, f⟩ := x
  refine ⟨by simp [encL], _, free_fn c, ?_⟩
  simp [encL]
  refine ⟨fun h => by simp [clE, h], fun h => ?_⟩
  have hc : clE ⟨c, k, v, f⟩ = if k < 0 ∨ k > 6 then 1 else if k > 2 then (if v ≠ 0 ∨ frS f = false then 3 else 0) else if f ≠ ⟨#[]⟩ then 3 else if v < 0 ∨ v > mostI k then 4 else 0 := by simp [clE, h]
  rw [hc]
  refine ⟨fun h1 => ⟨h1, by rw [if_pos (.inl h1)]⟩, fun h1 => ⟨h1, fun h2 => by rw [if_pos (.inr h2)], fun h2 => ?_⟩⟩
  rw [if_neg (by omega)]
  have hk : k = 0 ∨ k = 1 ∨ k = 2 ∨ k = 3 ∨ k = 4 ∨ k = 5 ∨ k = 6 := by omega
  rcases hk with rfl | rfl | rfl | rfl | rfl | rfl | rfl
  all_goals simp [gt2, mostI]
  · refine ⟨fun q1 q2 => absurd q2 q1, fun q => ?_⟩
    exact ⟨fun r => ⟨r, by rw [if_pos q, if_pos (.inl r)]⟩, fun r => ⟨r, fun r2 => by rw [if_pos q, if_pos (.inr r2)], fun r2 => by rw [if_pos q, if_neg (by omega)]⟩⟩
  · refine ⟨fun q1 q2 => absurd q2 q1, fun q => ?_⟩
    exact ⟨fun r => ⟨r, by rw [if_pos q, if_pos (.inl r)]⟩, fun r => ⟨r, fun r2 => by rw [if_pos q, if_pos (.inr r2)], fun r2 => by rw [if_pos q, if_neg (by omega)]⟩⟩
  · refine ⟨fun q1 q2 => absurd q2 q1, fun q => ?_⟩
    exact ⟨fun r => ⟨r, by rw [if_pos q, if_pos (.inl r)]⟩, fun r => ⟨r, fun r2 => by rw [if_pos q, if_pos (.inr r2)], fun r2 => by rw [if_pos q, if_neg (by omega)]⟩⟩
  all_goals
    refine ⟨fun q => ⟨q, fun q2 => absurd q2 q⟩, fun q => ⟨_, free_fn f, ?_⟩⟩
    simp [q]
end Go.Proofs.YtdlakpomcafemaaDoor
/- slices.Delete at a row of the caller's own. -/
namespace Go.Proofs.YtdlakpomcafemaaDoor
open Go.RowKit Go.Lib
set_option linter.unusedVariables false
end Go.Proofs.YtdlakpomcafemaaDoor
/- slices.Insert at a row of the caller's own: what no program needs. -/
namespace Go.Proofs.YtdlakpomcafemaaDoor
open Go.RowKit Go.Lib
set_option linter.unusedVariables false
set_option linter.unusedSimpArgs false
section
variable {P : Program}
theorem wp_copy_run (w : World) {o : Oper} {a : Act} {K : Act → World → Prop} {Q : Exit → Act → World → Prop} (d s : Operand) (t t' : TypeId)
    (ho : o.op = .call { callee := .builtin .copy, args := #[d, s], argTypes := #[t, t'] }) (v u : Value) (hd : a.eval d = v) (hs : a.eval s = u) {v' : Value} {w' : World}
    (hr : (Builtin.copy_ #[t, t'] o.type #[v, u]).run P w = .ok v' w') (h : K (a.put o.dst v') w') : o.wp P a w K Q := by
  unfold Oper.wp execOp
  simp only [ho, resolve, invoke, builtin, Sem.run_bind, Sem.run_pure, Result.andThen_ok, List.map_toArray, List.map_cons, List.map_nil, hd, hs, hr]
  exact h
theorem wpList_copy_run (w : World) {ops : Array Oper} {rest : List Oper} {o : Oper} {a : Act} {Q : Exit → Act → World → Prop} (hgd : o.guard = none) (d s : Operand) (t t' : TypeId)
    (ho : o.op = .call { callee := .builtin .copy, args := #[d, s], argTypes := #[t, t'] }) (v u : Value) (hd : a.eval d = v) (hs : a.eval s = u) {v' : Value} {w' : World}
    (hr : (Builtin.copy_ #[t, t'] o.type #[v, u]).run P w = .ok v' w') (h : wpList P ops Q rest (a.put o.dst v') w') : wpList P ops Q (o :: rest) a w :=
  wpList_plain hgd fun _ hK => wp_copy_run w d s t t' ho v u hd hs hr (hK _ _ h)
theorem step_copy_run {ops : Array Oper} {o : Oper} {a : Act} {w : World} {K : Act → World → Prop} {Q : Exit → Act → World → Prop} {E : Prop}
    (hg : o.guard = none) (d x : Operand) (dT sT : TypeId) (hop : o.op = Op.call { callee := Callee.builtin Builtin.copy, args := #[d, x], argTypes := #[dT, sT] })
    (v u : Value) (hd : a.eval d = v) (hx : a.eval x = u) {v' : Value} {w' : World} (hr : (Builtin.copy_ #[dT, sT] o.type #[v, u]).run P w = .ok v' w') (hK : K (a.put o.dst v') w') :
    if Region.wanted o (yielded ops a.tmps) = true then Oper.wp P o a w K Q else E := by
  have hw : Region.wanted o (yielded ops a.tmps) = true := by simp [Region.wanted, hg]
  rw [if_pos hw]
  unfold Oper.wp
  simp [execOp, hop, resolve, invoke, builtin, hd, hx, hr, Result.andThen]
  exact hK
/-- 'copy' at elements of several cells. -/
theorem run_copy_s (w : World) (dT sT ty elem : TypeId) (s : Nat) (b o dLen dCap : Nat) (a : Addr) (sLen sCap : Nat) (cs : List Value) (n : Nat)
    (hu : P.underlying dT = some (.slice elem)) (hs : (P.info? elem).map (·.size) = some s) (hn : n = Nat.min sLen dLen) (hl : cs.length = n * s)
    (hsrc : ∀ j v, cs[j]? = some v → w.cell? (a.add j) = some v) (hc : ∀ j, j < cs.length → (w.cell? ⟨b, o + j, none⟩).isSome = true) (hf : ∀ j, j < cs.length → w.frozen? ⟨b, o + j, none⟩ = false) (h1 : ∀ v ∈ cs, v.oneCell' = true) :
    (Builtin.copy_ #[dT, sT] ty #[.slice (some ⟨b, o, none⟩) dLen dCap, .slice (some a) sLen sCap]).run P w = .ok (goInt n) (w.setCells b o cs) := by
  have hld := run_loadCells_list (P := P) w a cs hsrc
  rw [hl] at hld
  have hst := run_storeCells_cells (P := P) b o cs 0 w (by simpa using hc) (by simpa using hf) h1
  cases hq : P.info? elem with
  | none => simp [hq] at hs
  | some i =>
    have hi : i.size = s := by simpa [hq] using hs
    simp [Builtin.copy_, run_underlying hu, Builtin.lenOf, Builtin.firstCells, sizeOf, typeInfo, hq, hi, ← hn, hld, hst]
/-- slices.overlaps of what has cells and of a row of one's own. -/
theorem run_overlaps_own (w : World) (tS tR e : TypeId) (ht : P.underlying tS = some (.slice e)) (size : Nat) (hz : ∀ w, (Go.sizeOf e).run P w = .ok size w)
    (a b : Addr) (la ca lb cb : Nat) (hne : a.block ≠ b.block) (csA : Array Value) (tA : TypeId) (fz : Nat × Nat) (hA : w.heap[a.block]? = some (.cells csA tA fz)) (hA0 : csA.size ≠ 0)
    (csB : Array Value) (tB : TypeId) (hB : w.heap[b.block]? = some (.cells csB tB (0, 0))) :
    (Extern.SlicesOverlaps.overlaps #[tS, tS] #[tR] #[.slice (some a) la ca, .slice (some b) lb cb]).run P w = .ok (.bool false) w := by
  have hnb : (a.block != b.block) = true := by simpa using hne
  have hnb' : (a.block == b.block) = false := by simpa using hne
  have hfb : ∀ k, w.frozen? ⟨b.block, k, none⟩ = false := fun k => by simp [World.frozen?, hB]
  have hfb' : w.frozen? b = false := by simp [World.frozen?, hB]
  have hsa : w.shape? a.block = some (tA, csA.size) := by simp [World.shape?, hA]
  have hsb : w.shape? b.block = some (tB, csB.size) := by simp [World.shape?, hB]
  change Sem.run P (α := Value) (do
    let some t := (#[tS, tS] : Array TypeId)[0]? | stuck "slices.overlaps: no parameter types"
    let .slice elem ← underlying t | stuck "slices.overlaps: slice type expected"
    let size ← sizeOf elem
    match (some a : Option Addr), (some b : Option Addr) with
    | some a, some b =>
      if la = 0 ∨ lb = 0 ∨ size = 0 then pure (Value.bool false)
      else if a.block != b.block && (← frozen a) && (← frozen b) then unsupported .addressObserved
      else do
        if a.block != b.block then do
          noView a; noView b
          if ← mayBeOne a b then return Value.bool ((← choose (.extern "sameAddr.stringBytes" 2)) == 1)
        pure (Value.bool (a.block == b.block && a.off < b.off + lb * size && b.off < a.off + la * size))
    | _, _ => pure (Value.bool false)) w = _
  by_cases h0 : la = 0 ∨ lb = 0 ∨ size = 0
  · simp [run_underlying ht, hz, h0]
  · obtain ⟨k, hk⟩ : ∃ k, csA.size = k + 1 := ⟨csA.size - 1, by omega⟩
    rw [hk] at hsa
    cases hfa : w.frozen? a <;> cases hfe : w.frozen? { block := a.block, off := k + 1 } <;>
      simp [run_underlying ht, hz, h0, hnb, hnb', frozen, noView, viewAt, mayBeOne, stringish, shape, Sem.run, hsa, hsb, hfa, hfe, hfb, hfb']
end
/-! ### rows by parts -/
/-- The cells xs are those of the elements L. -/
structure CellsOf (w : World) (okc : Nat → Prop) (s : Nat) (L : List (List AV)) (xs : List Value) : Prop where
  len : xs.length = L.length * s
  each : ∀ y ∈ L, y.length = s
  one : ∀ u ∈ xs, u.oneCell' = true
  val : ∀ i j, i < L.length → j < s → RV w okc (gt2 L i j) (xs.getD (i * s + j) undef)
theorem CellsOf.app {w : World} {okc : Nat → Prop} {s : Nat} {L M : List (List AV)} {xs ys : List Value} (h : CellsOf w okc s L xs) (k : CellsOf w okc s M ys) : CellsOf w okc s (L ++ M) (xs ++ ys) := by
  refine ⟨by rw [List.length_append, List.length_append, h.len, k.len, Nat.add_mul], fun y hy => (List.mem_append.1 hy).elim (h.each y) (k.each y), fun u hu => (List.mem_append.1 hu).elim (h.one u) (k.one u), fun i j hi hj => ?_⟩
  rw [List.length_append] at hi
  by_cases hil : i < L.length
  · have e1 : gt2 (L ++ M) i j = gt2 L i j := by unfold gt2; simp [List.getElem?_append_left hil]
    have hlt : i * s + j < xs.length := by
      rw [h.len]
      have : (i + 1) * s ≤ L.length * s := Nat.mul_le_mul_right _ hil
      rw [Nat.add_mul] at this; omega
    have e2 : (xs ++ ys).getD (i * s + j) undef = xs.getD (i * s + j) undef := by simp [List.getElem?_append_left hlt]
    rw [e1, e2]; exact h.val i j hil hj
  · have hge : L.length ≤ i := by omega
    have e1 : gt2 (L ++ M) i j = gt2 M (i - L.length) j := by unfold gt2; simp [List.getElem?_append_right hge]
    have hge2 : xs.length ≤ i * s + j := by rw [h.len]; have : L.length * s ≤ i * s := Nat.mul_le_mul_right _ hge; omega
    have e3 : i * s + j - xs.length = (i - L.length) * s + j := by rw [h.len, Nat.sub_mul]; have : L.length * s ≤ i * s := Nat.mul_le_mul_right _ hge; omega
    have e2 : (xs ++ ys).getD (i * s + j) undef = ys.getD ((i - L.length) * s + j) undef := by
      rw [List.getD_eq_getElem?_getD, List.getElem?_append_right hge2, e3, List.getD_eq_getElem?_getD]
    rw [e1, e2]; exact k.val _ j (by omega) hj
theorem CellsOf.take {w : World} {okc : Nat → Prop} {s : Nat} {L : List (List AV)} {xs : List Value} (h : CellsOf w okc s L xs) (i : Nat) (hi : i ≤ L.length) : CellsOf w okc s (L.take i) (xs.take (i * s)) := by
  have his : i * s ≤ L.length * s := Nat.mul_le_mul_right _ hi
  refine ⟨by rw [List.length_take, List.length_take, h.len, Nat.min_eq_left hi, Nat.min_eq_left his], fun y hy => h.each y (List.mem_of_mem_take hy), fun u hu => h.one u (List.mem_of_mem_take hu), fun p q hp hq => ?_⟩
  have hp' : p < i := by rw [List.length_take] at hp; omega
  have hlt : p * s + q < i * s := by have : (p + 1) * s ≤ i * s := Nat.mul_le_mul_right _ hp'; rw [Nat.add_mul] at this; omega
  have e1 : gt2 (L.take i) p q = gt2 L p q := by unfold gt2; simp [List.getElem?_take_of_lt hp']
  have e2 : (xs.take (i * s)).getD (p * s + q) undef = xs.getD (p * s + q) undef := by simp [List.getElem?_take_of_lt hlt]
  rw [e1, e2]; exact h.val p q (by omega) hq
theorem CellsOf.drop {w : World} {okc : Nat → Prop} {s : Nat} {L : List (List AV)} {xs : List Value} (h : CellsOf w okc s L xs) (i : Nat) : CellsOf w okc s (L.drop i) (xs.drop (i * s)) := by
  refine ⟨by rw [List.length_drop, List.length_drop, h.len, Nat.sub_mul], fun y hy => h.each y (List.mem_of_mem_drop hy), fun u hu => h.one u (List.mem_of_mem_drop hu), fun p q hp hq => ?_⟩
  have hp' : i + p < L.length := by rw [List.length_drop] at hp; omega
  have e1 : gt2 (L.drop i) p q = gt2 L (i + p) q := by unfold gt2; simp [List.getElem?_drop]
  have e2 : (xs.drop (i * s)).getD (p * s + q) undef = xs.getD ((i + p) * s + q) undef := by
    rw [List.getD_eq_getElem?_getD, List.getElem?_drop, List.getD_eq_getElem?_getD, show i * s + (p * s + q) = (i + p) * s + q by rw [Nat.add_mul]; omega]
  rw [e1, e2]; exact h.val _ q hp' hq
theorem CellsOf.mono {w w' : World} {okc okc' : Nat → Prop} {s : Nat} {L : List (List AV)} {xs : List Value} (h : CellsOf w okc s L xs) (hk : ∀ b, okc b → b < w.heap.size → okc' b ∧ w'.heap[b]? = w.heap[b]?) : CellsOf w' okc' s L xs :=
  ⟨h.len, h.each, h.one, fun i j hi hj => (h.val i j hi hj).mono hk⟩
theorem CellsOf.row {w : World} {B e s : Nat} {okc : Nat → Prop} {L : List (List AV)} {xs : List Value} (h : CellsOf w okc s L xs) (hs : 0 < s) {g cap : Nat} {cur : Array Value} (hB : B ≤ g) (hg : w.heap[g]? = some (.cells cur e (0, 0))) (hm : cap ≤ maxLen) (hcs : cur.size = cap * s) (hnc : L.length ≤ cap)
    (htk : cur.toList.take (L.length * s) = xs) : RRow w B e s okc (.sl s L) (.slice (some ⟨g, 0, none⟩) L.length cap) :=
  ⟨L, xs, rfl, hs, h.each, ⟨h.len, .inr ⟨g, cap, cur, rfl, hB, hg, hnc, hm, hcs, htk⟩⟩, h.one, h.val⟩
/-- The cells of a plain slice whose elements hold no memory. -/
theorem cells_flat {w : World} {ok okc : Nat → Prop} {s : Nat} {Y : List (List AV)} {v : Value} (h : RV w ok (.sl s Y) v) (hf : ∀ y ∈ Y, ∀ z ∈ y, z.flat) (h0 : 0 < Y.length) :
    ∃ (vb vo vc : Nat) (ys : List Value), v = .slice (some ⟨vb, vo, none⟩) Y.length vc ∧ ok vb ∧ vb < w.heap.size ∧ Y.length ≤ vc ∧ vc ≤ maxLen ∧ CellsOf w okc s Y ys ∧ ∀ j u, ys[j]? = some u → w.cell? ⟨vb, vo + j, none⟩ = some u := by
  cases h with
  | sl _ _ A n c us hn hnc hc hs hA hone hu =>
    subst hn
    obtain ⟨b, off, rfl, hok, hlt, hcell⟩ := hA h0
    have hdiv : ∀ k, k < Y.length * s → k / s < Y.length ∧ k % s < s ∧ k / s * s + k % s = k := fun k hk => by
      have hs0 : 0 < s := by rcases Nat.eq_zero_or_pos s with e | e; (subst e; simp at hk); exact e
      exact ⟨Nat.div_lt_of_lt_mul (by rw [Nat.mul_comm]; exact hk), Nat.mod_lt _ hs0, by rw [Nat.mul_comm]; exact Nat.div_add_mod k s⟩
    refine ⟨b, off, c, (List.range (Y.length * s)).map fun k => us (k / s) (k % s), rfl, hok, hlt, hnc, hc, ⟨by simp, hs, fun u hu' => ?_, fun i j hi hj => ?_⟩, fun j u hj => ?_⟩
    · obtain ⟨k, hk, rfl⟩ := List.mem_map.1 hu'
      obtain ⟨q1, q2, _⟩ := hdiv k (by simpa using hk)
      exact hone _ _ q1 q2
    · have hlt' : i * s + j < Y.length * s := by have : (i + 1) * s ≤ Y.length * s := Nat.mul_le_mul_right _ hi; rw [Nat.add_mul] at this; omega
      have hs0 : 0 < s := by omega
      have e4 : (i * s + j) / s = i := by rw [Nat.add_comm, Nat.add_mul_div_right _ _ hs0, Nat.div_eq_of_lt hj]; omega
      have e5 : (i * s + j) % s = j := by rw [Nat.add_comm, Nat.add_mul_mod_self_right, Nat.mod_eq_of_lt hj]
      have e2 : ((List.range (Y.length * s)).map fun k => us (k / s) (k % s)).getD (i * s + j) undef = us i j := by
        rw [List.getD_eq_getElem?_getD, List.getElem?_map, List.getElem?_range hlt']; simp [e4, e5]
      rw [e2]
      have hmem : gt2 Y i j ∈ Y.getD i [] := by
        have hYi : (Y.getD i []) ∈ Y := by rw [List.getD_eq_getElem?_getD, List.getElem?_eq_getElem hi]; exact List.getElem_mem hi
        have hjl : j < (Y.getD i []).length := by rw [hs _ hYi]; exact hj
        unfold gt2
        rw [List.getD_eq_getElem?_getD (l := Y.getD i []), List.getElem?_eq_getElem hjl]
        exact List.getElem_mem hjl
      have hYi : (Y.getD i []) ∈ Y := by rw [List.getD_eq_getElem?_getD, List.getElem?_eq_getElem hi]; exact List.getElem_mem hi
      exact (flat_rv (hu i j hi hj) (hf _ hYi _ hmem)).mono fun g hg _ => hg.elim
    · have hjl : j < Y.length * s := by
        have := (List.getElem?_eq_some_iff.1 hj).1
        simpa using this
      obtain ⟨q1, q2, q3⟩ := hdiv j hjl
      rw [List.getElem?_map, List.getElem?_range hjl] at hj
      simp only [Option.map_some, Option.some.injEq] at hj
      rw [← hj, ← hcell _ _ q1 q2]
      congr 2; omega
end Go.Proofs.YtdlakpomcafemaaDoor
/- slices.Insert at api.TubeNode. -/
namespace Go.Proofs.YtdlakpomcafemaaDoor
open Go.RowKit Go.Lib
set_option linter.unusedVariables false
set_option linter.unusedSimpArgs false
set_option maxRecDepth 1000000
set_option maxHeartbeats 4000000
theorem insNd_info : (Tryd.prog.info? 39).map (fun i => (i.zero, i.size, i.bytes)) = some (some (.agg #[.int .i64 0, .int .i64 0, .int .i64 0, .int .i64 0, .int .i64 0, .int .i64 0]), 6, 48) := by kernel_rfl
theorem insNd_size (w : World) : (Go.sizeOf 39).run Tryd.prog w = .ok 6 w := by kernel_rfl
theorem insNd_und : Tryd.prog.underlying 23 = some (.slice 39) := by kernel_rfl
theorem insNd_und2 : Tryd.prog.underlying 22 = some (.slice 39) := by kernel_rfl
/-- At the end. -/
theorem insNd_end (A : Option Addr) (n c vb vo m vc : Nat) (hm : 0 < m) (hnc : n ≤ c) (hc : c ≤ maxLen) (w w' : World) (v' : Value) (hrun : (Builtin.append_ #[23, 22] 23 #[.slice A n c, .slice (some ⟨vb, vo, none⟩) m vc]).run Tryd.prog w = .ok v' w') :
    Calls Tryd.prog 53 #[.slice A n c, .int .i64 n, .slice (some ⟨vb, vo, none⟩) m vc] w fun e W => e = .returned v' ∧ W = w' := by
  unfold maxLen at hc
  have hz1 : ¬ ((m : Int) = 0) := by omega
  have hb : (n : Int) ≤ 9223372036854775807 := by omega
  go_enter Tryd.func53, Tryd.ntmps53
  cases A with
  | none =>
    go_wp2_with (at_builtin; refine Lib.wpList_append_run _ rfl _ _ _ _ rfl _ _ rfl rfl _ _ hrun ?_)
    all_goals (go_ret; exact ⟨rfl, rfl⟩)
  | some a =>
    obtain ⟨ab, ao, asp⟩ := a
    go_wp2_with (at_builtin; refine Lib.wpList_append_run _ rfl _ _ _ _ rfl _ _ rfl rfl _ _ hrun ?_)
    all_goals (go_ret; exact ⟨rfl, rfl⟩)
/-- In place. -/
theorem insNd_shift (b n c i vb vo m vc : Nat) (xs ys : List Value) (cur : Array Value) (w : World) (hi : i < n) (hm : 0 < m) (hroom : n + m ≤ c) (hc63 : c ≤ 9223372036854775807) (hvb : vb ≠ b)
    (hcl : xs.length = n * 6) (hvl : ys.length = m * 6) (hg : w.heap[b]? = some (.cells cur 39 (0, 0))) (hcs : cur.size = c * 6) (htk : cur.toList.take (n * 6) = xs)
    (hvs : ∀ j v, ys[j]? = some v → w.cell? ⟨vb, vo + j, none⟩ = some v) (h1c : ∀ v ∈ xs, v.oneCell' = true) (h1v : ∀ v ∈ ys, v.oneCell' = true) :
    Calls Tryd.prog 53 #[.slice (some ⟨b, 0, none⟩) n c, .int .i64 i, .slice (some ⟨vb, vo, none⟩) m vc] w fun e w' =>
      e = .returned (.slice (some ⟨b, 0, none⟩) (n + m) c) ∧ w' = (w.drew.setCells b ((i + m) * 6) (xs.drop (i * 6))).setCells b (i * 6) ys := by
  have mixed : Tryd.prog.follows .mixedOrders = true := by kernel_rfl
  have hz1 : ¬ ((m : Int) = 0) := by omega
  have hz2 : ¬ ((i : Int) = (n : Int)) := by omega
  have hsz : (Tryd.prog.info? 39).map (·.size) = some 6 := by kernel_rfl
  have hy0 : ∃ v, w.cell? ⟨vb, vo, none⟩ = some v := by
    have h0 : 0 < ys.length := by rw [hvl]; omega
    exact ⟨ys[0], by simpa using hvs 0 _ (List.getElem?_eq_getElem h0)⟩
  obtain ⟨csA, tA, fz, hA, hA0⟩ : ∃ csA tA fz, w.heap[vb]? = some (.cells csA tA fz) ∧ csA.size ≠ 0 := by
    obtain ⟨v, hv⟩ := hy0
    unfold World.cell? at hv
    cases hq : w.heap[vb]? with
    | none => simp [hq] at hv
    | some o =>
      cases o with
      | cells cs tA fz =>
        refine ⟨cs, tA, fz, rfl, fun e => ?_⟩
        have : cs = #[] := by simpa using e
        subst this
        simp [hq] at hv
      | _ => simp [hq] at hv
  have hov : ∀ lb cb, (callFunc 64 #[.slice (some ⟨vb, vo, none⟩) m vc, .slice (some ⟨b, (i + m) * 6, none⟩) lb cb]).run Tryd.prog w = .ok (.value (.bool false)) w := fun lb cb => by
    rw [run_callFunc_extern Tryd.func64 (by kernel_rfl) (by kernel_rfl) (by kernel_rfl) (e := Extern.SlicesOverlaps.overlaps #[22, 22] #[4]) (by kernel_rfl),
      run_overlaps_own w 22 4 39 insNd_und2 6 insNd_size ⟨vb, vo, none⟩ ⟨b, (i + m) * 6, none⟩ m vc lb cb hvb csA tA fz hA hA0 cur 39 hg]
    rfl
  have hdl : (xs.drop (i * 6)).length = (n - i) * 6 := by rw [List.length_drop, hcl, Nat.sub_mul]
  have hw1 : IntKind.i64.wrap ((i : Int) + (m : Int)) = (i : Int) + (m : Int) := by rw [IntKind.wrap_i64]; omega
  have hb1 : (0 : Int) ≤ (i : Int) + (m : Int) := by omega
  have hin : i ≤ n := by omega
  have htn : ((i : Int) + (m : Int)).toNat = i + m := by omega
  have hb2 : ¬ (c = i + m) := by omega
  have hb3 : (i : Int) ≤ (n : Int) + (m : Int) := by omega
  have hb4 : ¬ (c = i) := by omega
  have hfz : ∀ (W : World) (cs : Array Value), W.heap[b]? = some (.cells cs 39 (0, 0)) → ∀ k, W.frozen? ⟨b, k, none⟩ = false := fun W cs hW k => by simp [World.frozen?, hW]
  have hsp : ∀ (W : World) (cs : Array Value), W.heap[b]? = some (.cells cs 39 (0, 0)) → ∀ k, k < cs.size → (W.cell? ⟨b, k, none⟩).isSome = true := fun W cs hW k hk => by
    rw [cell_of_row W b k cs 39 (0, 0) hW]; simp [hk]
  have hmul : ∀ a b : Nat, a ≤ b → a * 6 ≤ b * 6 := fun a b h => Nat.mul_le_mul_right _ h
  have hg1 : w.drew.heap[b]? = some (.cells cur 39 (0, 0)) := hg
  have hcp1 : ∀ ty dc sc, (Builtin.copy_ #[23, 23] ty #[.slice (some ⟨b, (i + m) * 6, none⟩) (n + m - (i + m)) dc, .slice (some ⟨b, i * 6, none⟩) (n + m - i) sc]).run Tryd.prog w.drew = .ok (goInt ((n - i : Nat) : Int)) (w.drew.setCells b ((i + m) * 6) (xs.drop (i * 6))) := fun ty dc sc =>
    run_copy_s w.drew _ _ ty 39 6 b ((i + m) * 6) (n + m - (i + m)) dc ⟨b, i * 6, none⟩ (n + m - i) sc (xs.drop (i * 6)) (n - i) insNd_und hsz (by simp only [Nat.min_def]; split <;> omega) hdl
      (fun j v hj => by
        rw [Addr.add_lit, cell_of_row _ b _ cur 39 (0, 0) hg1]
        rw [List.getElem?_drop, ← htk, List.getElem?_take] at hj
        split at hj
        · rw [← Array.getElem?_toList]; exact hj
        · cases hj)
      (fun j hj => hsp _ cur hg1 _ (by rw [hdl] at hj; rw [hcs]; have := hmul (n + m) c hroom; rw [Nat.add_mul] at this; rw [Nat.sub_mul] at hj; have := hmul i n hin; rw [Nat.add_mul]; omega)) (fun j hj => hfz _ cur hg1 _) (fun v hv => h1c v (List.mem_of_mem_drop hv))
  obtain ⟨W1, hW1⟩ : ∃ W1, W1 = w.drew.setCells b ((i + m) * 6) (xs.drop (i * 6)) := ⟨_, rfl⟩
  have hg2 : W1.heap[b]? = some (.cells (setR cur ((i + m) * 6) (xs.drop (i * 6))) 39 (0, 0)) := by rw [hW1]; exact setCells_blk _ _ _ _ hg1
  have hcp2 : ∀ (W : World), W.heap = W1.heap → ∀ ty dc, (Builtin.copy_ #[23, 22] ty #[.slice (some ⟨b, i * 6, none⟩) (n + m - i) dc, .slice (some ⟨vb, vo, none⟩) m vc]).run Tryd.prog W = .ok (goInt m) (W.setCells b (i * 6) ys) := fun W hWh ty dc =>
    run_copy_s W _ _ ty 39 6 b (i * 6) (n + m - i) dc ⟨vb, vo, none⟩ m vc ys m insNd_und hsz (by simp only [Nat.min_def]; split <;> omega) hvl
      (fun j v hj => by
        have e1 : W.cell? (({ block := vb, off := vo } : Addr).add j) = W1.cell? (({ block := vb, off := vo } : Addr).add j) := World.cell?_of_block (by rw [hWh])
        rw [e1, hW1, Addr.add_lit, World.cell?_setCells_out b _ _ _ _ (fun h _ => absurd h hvb)]
        exact hvs j v hj)
      (fun j hj => hsp W _ (by rw [hWh]; exact hg2) _ (by rw [setR_size, hcs]; rw [hvl] at hj; have := hmul (i + m) c (by omega); rw [Nat.add_mul] at this; omega)) (fun j hj => hfz W _ (by rw [hWh]; exact hg2) _) h1v
  rw [← hW1] at hcp1
  clear hg2 hg1 hsp hfz hmul htk hcs hg hA hA0 h1c hcl
  go_enter Tryd.func53, Tryd.ntmps53
  go_wp2_with (simp only [hov])
  go_region_law_o (refine step_copy_run rfl _ _ 23 23 rfl _ _ (by simp [Act.eval, Act.put]) (by simp [Act.eval, Act.put]) (hcp1 _ _ _) ?_)
  go_wp2_with (at_builtin; refine wpList_copy_run _ rfl _ _ 23 22 rfl _ _ rfl rfl (hcp2 _ rfl _ _) ?_)
  go_ret
  first | exact ⟨rfl, rfl⟩ | exact ⟨rfl, by rw [hW1]⟩
/-- Into a new row. -/
theorem insNd_grow (b n c i vb vo m vc : Nat) (xs ys : List Value) (cur : Array Value) (w : World) (hi : i < n) (hm : 0 < m) (hnc : n ≤ c) (hroom : c < n + m) (hbig : (n + m) * 48 ≤ 140737488355328)
    (hcl : xs.length = n * 6) (hvl : ys.length = m * 6) (hg : w.heap[b]? = some (.cells cur 39 (0, 0))) (hcs : cur.size = c * 6) (htk : cur.toList.take (n * 6) = xs)
    (hvs : ∀ j v, ys[j]? = some v → w.cell? ⟨vb, vo + j, none⟩ = some v) (h1c : ∀ v ∈ xs, v.oneCell' = true) (h1v : ∀ v ∈ ys, v.oneCell' = true) :
    ∃ (G : Nat) (ROW : Array Value) (W : World), n + m ≤ G ∧ G ≤ maxLen ∧ ROW.size = G * 6 ∧ ROW.toList.take (i * 6) = xs.take (i * 6) ∧ W.heap = (w.alloc (.cells ROW 39)).heap ∧ W.os = w.os ∧ W.tape = w.tape ∧ W.output = w.output ∧ w.drawn ≤ W.drawn ∧
    Calls Tryd.prog 53 #[.slice (some ⟨b, 0, none⟩) n c, .int .i64 i, .slice (some ⟨vb, vo, none⟩) m vc] w fun e w' =>
      e = .returned (.slice (some ⟨w.heap.size, 0, none⟩) (n + m) G) ∧ w' = ((W.setCells w.heap.size (i * 6) ys).drew).setCells w.heap.size ((i + m) * 6) (xs.drop (i * 6)) := by
  have mixed : Tryd.prog.follows .mixedOrders = true := by kernel_rfl
  obtain ⟨i0, hi0, hz0, hzs, hzb⟩ : ∃ i0, Tryd.prog.info? 39 = some i0 ∧ i0.zero = some (.agg #[.int .i64 0, .int .i64 0, .int .i64 0, .int .i64 0, .int .i64 0, .int .i64 0]) ∧ i0.size = 6 ∧ i0.bytes = 48 := by
    have := insNd_info
    cases hq : Tryd.prog.info? 39 with
    | none => rw [hq] at this; cases this
    | some i0 => rw [hq] at this; simp at this; exact ⟨i0, rfl, this.1, this.2.1, this.2.2⟩
  have hz1 : ¬ ((m : Int) = 0) := by omega
  have hz2 : ¬ ((i : Int) = (n : Int)) := by omega
  have hz3 : (c : Int) < (n : Int) + (m : Int) := by omega
  have hsz : (Tryd.prog.info? 39).map (·.size) = some 6 := by kernel_rfl
  have hbw : b < w.heap.size := (Array.getElem?_eq_some_iff.1 hg).1
  have hvw : vb < w.heap.size := block_lt_of_cell (hvs 0 _ (List.getElem?_eq_getElem (by omega)))
  have hkk : (n : Int) + (m : Int) - (i : Int) = ((n + m - i : Nat) : Int) := by omega
  have hik : i + (n + m - i) = n + m := by omega
  have hmul : ∀ a b : Nat, a ≤ b → a * 6 ≤ b * 6 := fun a b h => Nat.mul_le_mul_right _ h
  have hget : ∀ (W : World), W.heap = w.heap → ∀ j v, xs[j]? = some v → W.cell? ⟨b, j, none⟩ = some v := fun W hW j v hj => by
    rw [cell_of_row W b j cur 39 (0, 0) (by rw [hW]; exact hg)]
    rw [← htk, List.getElem?_take] at hj
    split at hj
    · rw [← Array.getElem?_toList]; exact hj
    · cases hj
  have hold : (Builtin.firstCells i0.size i (.slice (some ⟨b, 0, none⟩) i c)).run Tryd.prog w.drew = .ok (xs.take (i * 6)).toArray w.drew := by
    rw [hzs]
    exact run_firstCells_some w.drew 6 i ⟨b, 0, none⟩ i c (xs.take (i * 6)) (by rw [List.length_take, hcl]; have := hmul i n (by omega); omega) (fun j v hj => by
      rw [Addr.add_lit, Nat.zero_add]
      rw [List.getElem?_take] at hj
      split at hj
      · exact hget w.drew rfl j v hj
      · cases hj)
  have hrz : ∀ ty, (Builtin.append_ #[23, 3] ty #[.slice (some ⟨b, 0, none⟩) i c, .int .i64 ((n : Int) + (m : Int) - (i : Int))]).run Tryd.prog w =
      .ok (.slice (some ⟨w.heap.size, 0, none⟩) (n + m) (grownCap w (n + m) c 39)) (w.drew.alloc (.cells ((xs.take (i * 6)).toArray ++ Builtin.zeroCells (.agg #[.int .i64 0, .int .i64 0, .int .i64 0, .int .i64 0, .int .i64 0, .int .i64 0] : Value).cells (n + m - i) ++ Builtin.zeroCells (.agg #[.int .i64 0, .int .i64 0, .int .i64 0, .int .i64 0, .int .i64 0, .int .i64 0] : Value).cells (grownCap w (n + m) c 39 - (n + m))) 39)) := fun ty => by
    have h := Lib.run_append_grow_zeros w 23 3 ty 39 i0 _ .i64 .i64 insNd_und (by kernel_rfl) hi0 hz0 (some ⟨b, 0, none⟩) i c (xs.take (i * 6)) hold (n + m - i) (by omega) (by omega) (by omega) (by omega) (by rw [hzb]; omega) (by rw [hzb, hik]; exact growslice_fits hroom hbig)
    rw [hik] at h
    rw [hkk]
    exact h
  obtain ⟨G, hG⟩ : ∃ G, G = grownCap w (n + m) c 39 := ⟨_, rfl⟩
  obtain ⟨ROW, hROW⟩ : ∃ ROW : Array Value, ROW = (xs.take (i * 6)).toArray ++ Builtin.zeroCells (.agg #[.int .i64 0, .int .i64 0, .int .i64 0, .int .i64 0, .int .i64 0, .int .i64 0] : Value).cells (n + m - i) ++ Builtin.zeroCells (.agg #[.int .i64 0, .int .i64 0, .int .i64 0, .int .i64 0, .int .i64 0, .int .i64 0] : Value).cells (G - (n + m)) := ⟨_, rfl⟩
  rw [← hG] at hrz
  rw [← hROW] at hrz
  have hGn : n + m ≤ G := by rw [hG]; exact grownCap_ge w _ _ _
  have hGm : G ≤ maxLen := by rw [hG]; exact grownCap_le_maxLen w (n + m) c 39 (by unfold maxLen; omega)
  have htl : (xs.take (i * 6)).length = i * 6 := by rw [List.length_take, hcl]; have := hmul i n (by omega); omega
  have hRl : ROW.size = G * 6 := by
    rw [hROW]
    simp only [Array.size_append, List.size_toArray, htl, Builtin.zeroCells, Value.cells, Array.size_map, Array.size_range]
    show i * 6 + (n + m - i) * 6 + (G - (n + m)) * 6 = G * 6
    rw [← Nat.add_mul, ← Nat.add_mul]; congr 1; omega
  have hRt : ROW.toList.take (i * 6) = xs.take (i * 6) := by
    rw [hROW]
    simp only [Array.toList_append, List.append_assoc]
    exact List.take_left' htl
  obtain ⟨W1, hW1⟩ : ∃ W1, W1 = w.drew.alloc (.cells ROW 39) := ⟨_, rfl⟩
  rw [← hW1] at hrz
  have hN0 : W1.heap[w.heap.size]? = some (.cells ROW 39 (0, 0)) := by rw [hW1]; show (w.heap.push _)[w.heap.size]? = _; simp
  have hold2 : ∀ k, k < w.heap.size → W1.heap[k]? = w.heap[k]? := fun k hk => by rw [hW1]; show (w.heap.push _)[k]? = _; rw [Array.getElem?_push, if_neg (by omega)]
  have hfz : ∀ (W : World) (cs : Array Value), W.heap[w.heap.size]? = some (.cells cs 39 (0, 0)) → ∀ k, W.frozen? ⟨w.heap.size, k, none⟩ = false := fun W cs hW k => by simp [World.frozen?, hW]
  have hsp : ∀ (W : World) (cs : Array Value), W.heap[w.heap.size]? = some (.cells cs 39 (0, 0)) → ∀ k, k < cs.size → (W.cell? ⟨w.heap.size, k, none⟩).isSome = true := fun W cs hW k hk => by
    rw [cell_of_row W w.heap.size k cs 39 (0, 0) hW]; simp [hk]
  have hcpA : ∀ (W : World), W.heap = W1.heap → ∀ ty dc, (Builtin.copy_ #[23, 22] ty #[.slice (some ⟨w.heap.size, i * 6, none⟩) (n + m - i) dc, .slice (some ⟨vb, vo, none⟩) m vc]).run Tryd.prog W = .ok (goInt m) (W.setCells w.heap.size (i * 6) ys) := fun W hWh ty dc =>
    run_copy_s W _ _ ty 39 6 w.heap.size (i * 6) (n + m - i) dc ⟨vb, vo, none⟩ m vc ys m insNd_und hsz (by simp only [Nat.min_def]; split <;> omega) hvl
      (fun j v hj => by
        have e1 : W.cell? (({ block := vb, off := vo } : Addr).add j) = w.cell? (({ block := vb, off := vo } : Addr).add j) := World.cell?_of_block (by rw [hWh, Addr.add_lit]; exact hold2 vb hvw)
        rw [e1, Addr.add_lit]
        exact hvs j v hj)
      (fun j hj => hsp W _ (by rw [hWh]; exact hN0) _ (by rw [hRl]; rw [hvl] at hj; have := hmul (i + m) G (by omega); rw [Nat.add_mul] at this; omega)) (fun j hj => hfz W _ (by rw [hWh]; exact hN0) _) h1v
  have hG63 : G ≤ 9223372036854775807 := hGm
  have hGi : ¬ (G = i) := by omega
  have hGim : ¬ (G = i + m) := by omega
  have hci : ¬ (c = i) := by omega
  have hbN : b ≠ w.heap.size := by omega
  have hdl : (xs.drop (i * 6)).length = (n - i) * 6 := by rw [List.length_drop, hcl, Nat.sub_mul]
  have hN1 : ∀ W : World, W.heap = W1.heap → (W.setCells w.heap.size (i * 6) ys).heap[w.heap.size]? = some (.cells (setR ROW (i * 6) ys) 39 (0, 0)) := fun W hW => setCells_blk _ _ _ _ (by rw [hW]; exact hN0)
  have hcpB : ∀ (W W2 : World), W.heap = W1.heap → W2.heap = (W.setCells w.heap.size (i * 6) ys).heap → ∀ ty dc sc, (Builtin.copy_ #[23, 23] ty #[.slice (some ⟨w.heap.size, (i + m) * 6, none⟩) (n + m - (i + m)) dc, .slice (some ⟨b, i * 6, none⟩) (n - i) sc]).run Tryd.prog W2 = .ok (goInt ((n - i : Nat) : Int)) (W2.setCells w.heap.size ((i + m) * 6) (xs.drop (i * 6))) := fun W W2 hWh hW2 ty dc sc =>
    run_copy_s W2 _ _ ty 39 6 w.heap.size ((i + m) * 6) (n + m - (i + m)) dc ⟨b, i * 6, none⟩ (n - i) sc (xs.drop (i * 6)) (n - i) insNd_und hsz (by simp only [Nat.min_def]; split <;> omega) hdl
      (fun j v hj => by
        have hbS : b < W.heap.size := by rw [hWh, hW1]; show b < (w.heap.push _).size; simp; omega
        have e1 : W2.heap[b]? = w.heap[b]? := by rw [hW2, World.heap_setCells_other W w.heap.size _ _ hbS hbN, hWh]; exact hold2 b hbw
        rw [Addr.add_lit, cell_of_row W2 b _ cur 39 (0, 0) (by rw [e1]; exact hg)]
        rw [List.getElem?_drop, ← htk, List.getElem?_take] at hj
        split at hj
        · rw [← Array.getElem?_toList]; exact hj
        · cases hj)
      (fun j hj => hsp W2 _ (by rw [hW2]; exact hN1 W hWh) _ (by rw [setR_size, hRl]; rw [hdl, Nat.sub_mul] at hj; have := hmul (n + m) G hGn; rw [Nat.add_mul] at this; have := hmul i n (by omega); rw [Nat.add_mul]; omega)) (fun j hj => hfz W2 _ (by rw [hW2]; exact hN1 W hWh) _) (fun v hv => h1c v (List.mem_of_mem_drop hv))
  have hw1 : IntKind.i64.wrap ((i : Int) + (m : Int)) = (i : Int) + (m : Int) := by rw [IntKind.wrap_i64]; omega
  have hb1 : (0 : Int) ≤ (i : Int) + (m : Int) := by omega
  have hin : i ≤ n := by omega
  have htn : ((i : Int) + (m : Int)).toNat = i + m := by omega
  have hb3 : (i : Int) ≤ (n : Int) := by omega
  refine ⟨G, ROW, (w.alloc (.cells ROW 39)).drew, hGn, hGm, hRl, hRt, rfl, rfl, rfl, rfl, Nat.le_succ _, ?_⟩
  subst hW1
  have hE : ((w.alloc (.cells ROW 39)).drew).heap = (w.drew.alloc (.cells ROW 39)).heap := rfl
  have hF : (((w.alloc (.cells ROW 39)).drew.setCells w.heap.size (i * 6) ys).drew).heap = ((w.alloc (.cells ROW 39)).drew.setCells w.heap.size (i * 6) ys).heap := rfl
  clear hkk hik hold hROW hG hRl hRt hN0 hN1 hold2 hfz hsp hmul hget hg htk hcs h1c hcl htl
  go_enter Tryd.func53, Tryd.ntmps53
  go_wp2_with (first
    | (at_builtin; refine Lib.wpList_append_run _ rfl _ _ _ _ rfl _ _ rfl rfl _ _ (hrz _) ?_)
    | (at_builtin; refine wpList_copy_run _ rfl _ _ 23 22 rfl _ _ rfl rfl (hcpA _ hE _ _) ?_))
  go_region_law_o (refine step_copy_run rfl _ _ 23 23 rfl (.slice (some ⟨w.heap.size, (i + m) * 6, none⟩) (n + m - (i + m)) (G - (i + m))) (.slice (some ⟨b, i * 6, none⟩) (n - i) (c - i)) (by simp [Act.eval, Act.put]) (by simp [Act.eval, Act.put]) (hcpB _ _ hE hF 3 (G - (i + m)) (c - i)) ?_)
  go_wp2
  go_ret
  exact ⟨rfl, rfl⟩
theorem insNd (L Y : List (List AV)) (i : Nat) (hi : i ≤ L.length) (hY : 0 < Y.length) (hf : ∀ y ∈ Y, ∀ z ∈ y, z.flat) (hbig : (L.length + Y.length) * 48 ≤ 140737488355328) :
    FnU Tryd.prog 53 39 6 (.sl 6 L) [.int i, .sl 6 Y] true (.sl 6 (L.take i ++ (Y ++ L.drop i))) := by
  refine ⟨Tryd.call53, ?_⟩
  intro w ok B okc v0 cargs hrow hokc hok hB hgl hsz hargs
  have h0 := hargs 0 (by simp)
  have h1 := hargs 1 (by simp)
  obtain ⟨vy, hc0, hvy⟩ : ∃ vy, cargs = #[.int .i64 i, vy] ∧ RV w ok (.sl 6 Y) vy := by
    have hsz2 : cargs.size = 2 := by simpa using hsz
    obtain ⟨l⟩ := cargs
    match l, hsz2 with
    | [a, b], _ =>
      have e0 : a = .int .i64 i := RV.lit_iff.1 (by simpa using h0)
      exact ⟨b, by rw [e0], by simpa using h1⟩
  subst hc0
  clear hargs h0 h1 hsz
  obtain ⟨vb, vo, vc, ys, rfl, hvok, hvlt, hvc, hvcm, hys, hycell⟩ := cells_flat (okc := okc) hvy hf hY
  have hvb := (hok vb hvok).1
  obtain ⟨L', xs, e1, hs, hL, ho, hone, hv⟩ := hrow
  injection e1 with _ e1
  subst e1
  have hC : CellsOf w okc 6 L xs := ⟨ho.1, hL, hone, hv⟩
  by_cases hin : i = L.length
  · subst hin
    obtain ⟨i0, hi0, hz0, hzs, hzb⟩ : ∃ i0, Tryd.prog.info? 39 = some i0 ∧ i0.zero = some (.agg #[.int .i64 0, .int .i64 0, .int .i64 0, .int .i64 0, .int .i64 0, .int .i64 0]) ∧ i0.size = 6 ∧ i0.bytes = 48 := by
      have := insNd_info
      cases hq : Tryd.prog.info? 39 with
      | none => rw [hq] at this; cases this
      | some i0 => rw [hq] at this; simp at this; exact ⟨i0, rfl, this.1, this.2.1, this.2.2⟩
    obtain ⟨v', w', hrun, h2, h3, _, h5⟩ := run_append_own_at (P := Tryd.prog) w B 23 22 39 i0 _ 6 48 insNd_und hi0 hz0 hzs hzb (by simp [Value.cells]) hs v0 L.length xs ho ⟨vb, vo, none⟩ Y.length vc ys hys.len (fun j u hj => by rw [Addr.add_lit]; exact hycell j u hj) hys.one (by unfold maxLen; omega) hbig hB
    have hform : ∃ A c, v0 = .slice A L.length c ∧ L.length ≤ c ∧ c ≤ maxLen := by
      rcases ho.2 with ⟨rfl, hn0⟩ | ⟨g, cap, cur, rfl, _, _, hnc, hm, _⟩
      · exact ⟨none, 0, by rw [hn0], by omega, by unfold maxLen; omega⟩
      · exact ⟨_, _, rfl, hnc, hm⟩
    obtain ⟨A, c, rfl, hnc, hcm⟩ := hform
    refine (insNd_end A L.length c vb vo Y.length vc hY hnc hcm w w' v' hrun).mono ?_
    rintro e W ⟨rfl, rfl⟩
    have hC2 : CellsOf W okc 6 (L ++ Y) (xs ++ ys) := (hC.app hys).mono fun b hb hlt => ⟨hb, h3.block b hlt fun e => (hokc b hb).1 e.symm⟩
    refine ⟨v', rfl, h3, ?_, by simp, fun g hg => ?_, run_drawn _ hrun⟩
    · rw [List.take_length, List.drop_length, List.append_nil]
      exact ⟨_, _, rfl, hs, hC2.each, by rw [List.length_append]; exact h2, hC2.one, hC2.val⟩
    · rcases h5 with q | q
      · left; rw [← q]; exact hg
      · right; rw [q] at hg; injection hg with hg; omega
  have hlt : i < L.length := by omega
  rcases ho.2 with ⟨rfl, hn0⟩ | ⟨g, cap, cur, rfl, hBg, hg, hnc, hm, hcs, htk⟩
  · omega
  have hvg : vb ≠ g := fun e => hvb (by rw [e]; rfl)
  have hlen : (L.take i ++ (Y ++ L.drop i)).length = L.length + Y.length := by simp; omega
  have hC2 : CellsOf w okc 6 (L.take i ++ (Y ++ L.drop i)) (xs.take (i * 6) ++ (ys ++ xs.drop (i * 6))) := (hC.take i hi).app (hys.app (hC.drop i))
  have hmul : ∀ a b : Nat, a ≤ b → a * 6 ≤ b * 6 := fun a b h => Nat.mul_le_mul_right _ h
  have his := hmul i L.length hi
  have hxt : (xs.take (i * 6)).length = i * 6 := by rw [List.length_take, ho.1]; omega
  have hxd : (xs.drop (i * 6)).length = (L.length - i) * 6 := by rw [List.length_drop, ho.1, Nat.sub_mul]
  -- what the two writes leave
  have key : ∀ (cap' : Nat) (C : Array Value), C.size = cap' * 6 → L.length + Y.length ≤ cap' → C.toList.take (i * 6) = xs.take (i * 6) →
      (setR (setR C (i * 6) ys) ((i + Y.length) * 6) (xs.drop (i * 6))).toList.take ((L.length + Y.length) * 6) = xs.take (i * 6) ++ (ys ++ xs.drop (i * 6)) := by
    intro cap' C hCs hcap hCt
    have q0 := hmul (L.length + Y.length) cap' hcap
    rw [Nat.add_mul] at q0
    have q2 : (L.length - i) * 6 = L.length * 6 - i * 6 := Nat.sub_mul _ _ _
    rw [setR_list _ _ _ (by rw [setR_size, hCs, hxd, Nat.add_mul]; omega), setR_list _ _ _ (by rw [hCs, hys.len]; omega), hCt, hys.len, Nat.add_mul i Y.length]
    have e1 : ((xs.take (i * 6) ++ ys ++ C.toList.drop (i * 6 + Y.length * 6)).take (i * 6 + Y.length * 6)) = xs.take (i * 6) ++ ys := List.take_left' (by rw [List.length_append, hxt, hys.len])
    rw [e1, List.append_assoc (xs.take (i * 6)) ys]
    exact List.take_left' (by rw [List.length_append, List.length_append, hxt, hys.len, hxd, Nat.add_mul]; omega)
  have key2 : ∀ (cap' : Nat) (C : Array Value), C.size = cap' * 6 → L.length + Y.length ≤ cap' → C.toList.take (i * 6) = xs.take (i * 6) →
      (setR (setR C ((i + Y.length) * 6) (xs.drop (i * 6))) (i * 6) ys).toList.take ((L.length + Y.length) * 6) = xs.take (i * 6) ++ (ys ++ xs.drop (i * 6)) := by
    intro cap' C hCs hcap hCt
    have q0 := hmul (L.length + Y.length) cap' hcap
    rw [Nat.add_mul] at q0
    have q2 : (L.length - i) * 6 = L.length * 6 - i * 6 := Nat.sub_mul _ _ _
    rw [setR_list _ _ _ (by rw [setR_size, hCs, hys.len]; omega), setR_list _ _ _ (by rw [hCs, hxd, Nat.add_mul]; omega), hys.len, Nat.add_mul i Y.length]
    have hl1 : (C.toList.take (i * 6 + Y.length * 6)).length = i * 6 + Y.length * 6 := by rw [List.length_take, show C.toList.length = C.size from Array.length_toList, hCs]; omega
    have e1 : (C.toList.take (i * 6 + Y.length * 6) ++ xs.drop (i * 6) ++ C.toList.drop (i * 6 + Y.length * 6 + (xs.drop (i * 6)).length)).take (i * 6) = xs.take (i * 6) := by
      rw [List.append_assoc, List.take_append_of_le_length (by rw [hl1]; omega), List.take_take, Nat.min_eq_left (by omega), hCt]
    have e2 : (C.toList.take (i * 6 + Y.length * 6) ++ xs.drop (i * 6) ++ C.toList.drop (i * 6 + Y.length * 6 + (xs.drop (i * 6)).length)).drop (i * 6 + Y.length * 6) = xs.drop (i * 6) ++ C.toList.drop (i * 6 + Y.length * 6 + (xs.drop (i * 6)).length) := by
      rw [List.append_assoc]; exact List.drop_left' hl1
    rw [e1, e2, List.append_assoc (xs.take (i * 6)) ys, ← List.append_assoc ys, ← List.append_assoc (xs.take (i * 6))]
    exact List.take_left' (by rw [List.length_append, List.length_append, hxt, hys.len, hxd, Nat.add_mul]; omega)
  have hct : cur.toList.take (i * 6) = xs.take (i * 6) := by rw [← htk, List.take_take, Nat.min_eq_left his]
  by_cases hroom : L.length + Y.length ≤ cap
  · refine (insNd_shift g L.length cap i vb vo Y.length vc xs ys cur w hlt hY hroom hm hvg ho.1 hys.len hg hcs htk hycell hone hys.one).mono ?_
    rintro e w' ⟨rfl, rfl⟩
    have hg2 : ((w.drew.setCells g ((i + Y.length) * 6) (xs.drop (i * 6))).setCells g (i * 6) ys).heap[g]? = some (.cells (setR (setR cur ((i + Y.length) * 6) (xs.drop (i * 6))) (i * 6) ys) 39 (0, 0)) := setCells_blk _ _ _ _ (setCells_blk _ _ _ _ hg)
    have hgr : w.grownBy ((w.drew.setCells g ((i + Y.length) * 6) (xs.drop (i * 6))).setCells g (i * 6) ys) (some g) := grownBy_trans (grownBy_drew w (some g)) (grownBy_trans (grown_setCells _ _ _ _) (grown_setCells _ _ _ _))
    refine ⟨_, rfl, hgr, ?_, by simp, fun g' hg' => .inl hg', by rw [setCells_drawn, setCells_drawn]; exact Nat.le_succ _⟩
    have hC3 := hC2.mono (w' := (w.drew.setCells g ((i + Y.length) * 6) (xs.drop (i * 6))).setCells g (i * 6) ys) (okc' := okc) fun b hb hlt => ⟨hb, hgr.block b hlt fun e => (hokc b hb).1 e.symm⟩
    rw [← hlen]
    exact hC3.row hs hBg hg2 hm (by rw [setR_size, setR_size]; exact hcs) (by rw [hlen]; exact hroom) (by rw [hlen]; exact key2 cap cur hcs hroom hct)
  · obtain ⟨G, ROW, W, hGn, hGm, hRs, hRt, hWh, hWo, hWt, hWp, hWd, hcall⟩ := insNd_grow g L.length cap i vb vo Y.length vc xs ys cur w hlt hY hnc (by omega) hbig ho.1 hys.len hg hcs htk hycell hone hys.one
    refine hcall.mono ?_
    rintro e w' ⟨rfl, rfl⟩
    have hWs : W.heap.size = w.heap.size + 1 := by rw [hWh]; show (w.heap.push _).size = _; simp
    have hW0 : W.heap[w.heap.size]? = some (.cells ROW 39 (0, 0)) := by rw [hWh]; show (w.heap.push _)[w.heap.size]? = _; simp
    have hg2 : (((W.setCells w.heap.size (i * 6) ys).drew).setCells w.heap.size ((i + Y.length) * 6) (xs.drop (i * 6))).heap[w.heap.size]? = some (.cells (setR (setR ROW (i * 6) ys) ((i + Y.length) * 6) (xs.drop (i * 6))) 39 (0, 0)) := setCells_blk _ _ _ _ (setCells_blk _ _ _ _ hW0)
    have hgW : W.grownBy (((W.setCells w.heap.size (i * 6) ys).drew).setCells w.heap.size ((i + Y.length) * 6) (xs.drop (i * 6))) (some w.heap.size) := grownBy_trans (grown_setCells _ _ _ _) (grownBy_trans (grownBy_drew _ _) (grown_setCells _ _ _ _))
    have hblk : ∀ k, k < w.heap.size → (((W.setCells w.heap.size (i * 6) ys).drew).setCells w.heap.size ((i + Y.length) * 6) (xs.drop (i * 6))).heap[k]? = w.heap[k]? := fun k hk => by
      rw [hgW.block k (by omega) (fun e => by injection e with e; omega), hWh]
      show (w.heap.push _)[k]? = _
      rw [Array.getElem?_push, if_neg (by omega)]
    refine ⟨_, rfl, ⟨hgW.os.trans hWo, hgW.tape.trans hWt, hgW.output.trans hWp, Nat.le_trans (by omega) hgW.size, fun k hk _ => hblk k hk⟩, ?_, by simp, fun g' hg' => .inr (by have e : w.heap.size = g' := (by injection hg'); omega), by rw [setCells_drawn]; show w.drawn ≤ (W.setCells w.heap.size _ ys).drawn + 1; rw [setCells_drawn]; omega⟩
    have hC3 := hC2.mono (w' := ((W.setCells w.heap.size (i * 6) ys).drew).setCells w.heap.size ((i + Y.length) * 6) (xs.drop (i * 6))) (okc' := okc) fun b hb hlt => ⟨hb, hblk b hlt⟩
    rw [← hlen]
    exact hC3.row hs hB hg2 hGm (by rw [setR_size, setR_size]; exact hRs) (by rw [hlen]; exact hGn) (by rw [hlen]; exact key G ROW hRs hGn hRt)
end Go.Proofs.YtdlakpomcafemaaDoor
/- A law's walk where the arguments' weights are known (the form's own reach). -/
namespace Go.Proofs.YtdlakpomcafemaaDoor
open Go.ChangeShapes Go.WideShapes Go.ChangeAt Go.RowKit Go.Joins Go.Deep
set_option linter.unusedVariables false
section
variable {H : Type} {enc : TypeId × Value → H} {P : Program} {W : World}
theorem sized_one {t e : TypeId} {v : Value} {dd : DataW H} {p : List MemPlace} {s : Nat} {L : List (List AV)} {ok : Nat → Prop} (hu : P.underlying t = some (.slice e)) (h : DataW.Trod enc P W 0 (fun _ => true) true t v dd p) (hr : RV W ok (.sl s L) v) (hw : ∀ n ∈ dd.weights P t, n ≤ reachBytes) : L.length * P.bytesOf e ≤ reachBytes := by
  obtain ⟨fuel, hf⟩ := h
  cases hr with
  | sl _ _ A n c us hn hnc hc hs hA hone hu' =>
    have h1 : (Value.slice A n c).cells.toList = [.slice A n c] := rfl
    rw [h1] at hf
    rcases open_slice hu hf with ⟨ev, ex⟩ | ⟨a, len, cap, m', fu, D, Pl, ev, hb, hlc, hcm, hmm, hx, hi⟩
    · injection ev with ev _
      injection ev with _ ev _
      rw [hn, ev]
      simp [reachBytes]
    · injection ev with ev _
      injection ev with _ ev _
      injection hx with hx _
      have := hw (((List.range len).map D).length + ((List.range (m' - len)).map fun j => D (len + j)).length |> (· * P.bytesOf e)) (by rw [hx]; simp [DataW.weights, hu])
      simp at this
      rw [hn, ev]
      exact Nat.le_trans (Nat.mul_le_mul_right _ (Nat.le_add_right _ _)) this
theorem trodAll_at : ∀ (ts : List TypeId) (vs : List Value) (ds : List (DataW H)) (p : List MemPlace), DataW.TrodAll enc P W 0 (fun _ => true) true ts vs ds p → ∀ i, i < ts.length → ∃ dd q, ds[i]? = some dd ∧ DataW.Trod enc P W 0 (fun _ => true) true (ts.getD i 0) (vs.getD i undef) dd q
  | [], vs, ds, p, h, i, hi => by simp at hi
  | t :: ts, vs, ds, p, h, i, hi => by
    obtain ⟨v, vs', d, ds', p', q, rfl, rfl, rfl, h1, h2⟩ := trodAll_cons h
    cases i with
    | zero => exact ⟨d, p', rfl, h1⟩
    | succ i =>
      obtain ⟨dd, q', e1, e2⟩ := trodAll_at ts vs' ds' q h2 i (by simpa using hi)
      exact ⟨dd, q', by simpa using e1, by simpa using e2⟩
/-- **A law's walk**, its arguments' weights being within the form's reach. -/
theorem law_calls_sized {f : FuncId} {F : Func} {args : Array Value} {ds gs : List (DataW H)} {us : List TypeId} {p : List MemPlace} {base : Nat} (hb : F.params.toList.all (argB P) = true)
    (hfn : ∀ xs : List AV, xs.length = F.params.toList.length → (∀ i, i < F.params.toList.length → ArgOk P (F.params.toList.getD i 0) (xs.getD i default)) →
      (∀ i s L e, i < F.params.toList.length → xs.getD i default = .sl s L → P.underlying (F.params.toList.getD i 0) = some (.slice e) → L.length * P.bytesOf e ≤ reachBytes) → Fn P f xs .sc (.bool true))
    (hval : ∀ (j : Nat) t v, F.params[j]? = some t → args[j]? = some v → Value.okWide P W .any base t v)
    (hA : DataW.TrodAll enc P W 0 (fun _ => true) true F.params.toList args.toList ds p)
    (hsz : (DataW.weightsEach P (F.params.toList ++ us) (ds ++ gs)).all (· ≤ reachBytes) = true) (hgl : Gl W.heap.size W (okAll W) := by (exact ⟨by (intro p hp; simp [globL] at hp), by (intro g hg; simp [globI] at hg)⟩)) : Calls P f args W (Ret (.bool true) W) := by
  obtain ⟨xs, l1, l2, hxs⟩ := args_open F.params.toList args.toList ds p hA (fun j t v h1 h2 => hval j t v (by simpa using h1) (by simpa using h2)) hb
  refine ((hfn xs l1 (fun i hi => (hxs i hi).1) (fun i s L e hi hx hu => ?_)).2 W (okAll W) args (fun g hg => hg) hgl (by rw [l1, ← l2]; simp) fun i hi => ?_).mono ?_
  · obtain ⟨dd, q, e1, e2⟩ := trodAll_at F.params.toList args.toList ds p hA i hi
    have hr := (hxs i hi).2
    rw [hx] at hr
    refine sized_one hu e2 hr fun n hn => ?_
    have hm := DataW.weights_mem_each (P := P) (ts := F.params.toList ++ us) (ds := ds ++ gs) (j := i) (t := F.params.toList.getD i 0) (d := dd)
      (by rw [List.getElem?_append_left hi, List.getD_eq_getElem?_getD, List.getElem?_eq_getElem hi]; rfl)
      (by
        have hid : i < ds.length := (List.getElem?_eq_some_iff.1 e1).1
        rw [List.getElem?_append_left hid]; exact e1) n hn
    have := List.all_eq_true.1 hsz n hm
    simpa using this
  · have := (hxs i (by omega)).2
    rwa [show args.getD i undef = args.toList.getD i undef by simp [List.getD_eq_getElem?_getD, Array.getD_eq_getD_getElem?]]
  · rintro e W' ⟨v, rfl, hbel, hr, _⟩
    have hr' : RV W' noBlock (.bool true) v := hr
    exact ret_mk (RV.lit_iff.1 hr') hbel
end
end Go.Proofs.YtdlakpomcafemaaDoor
/- Package-level variables that are laid, as known cells. -/
namespace Go.Proofs.YtdlakpomcafemaaDoor
open Go.ChangeShapes Go.WideShapes Go.ChangeAt Go.RowKit
set_option linter.unusedVariables false
section
variable {H : Type} {enc : TypeId × Value → H} {P : Program} {W : World}
def datV {H : Type} : DataW H → Value
  | .lit (.string s) => .string ⟨s.toArray⟩
  | .lit (.int k n) => .int k n
  | .lit (.bool b) => .bool b
  | .lit (.float k b) => .float k b
  | _ => undef
/-- An array of strings or numbers, opened. -/
theorem arr_open {t e : TypeId} {k fuel : Nat} {cs : List Value} {ds : List (DataW H)} {p : List MemPlace} (ht : P.underlying t = some (.array k e)) (hc : P.cellsOf e = 1) (hct : P.cellsOf t = k)
    (he : P.underlying e = some .string ∨ ∃ i, P.underlying e = some (.int i)) (h : DataW.trod enc P W 0 (fun _ => true) false fuel t cs = some (.agg ds, p)) : cs = ds.map datV := by
  obtain ⟨xs, m, rfl, hx, hlen, hn, hel⟩ := DataW.trod_array ht h
  simp only [Prod.mk.injEq, DataW.agg.injEq] at hx
  rw [hct] at hlen
  obtain ⟨rfl, _⟩ := hx
  apply List.ext_getElem?
  intro i
  by_cases hi : i < k
  · have h1 := hel i hi
    rw [hc, Nat.mul_one] at h1
    have h2 : (cs.drop i).take 1 = [cs[i]'(by omega)] := by
      rw [List.drop_eq_getElem_cons (by omega)]; rfl
    rw [h2] at h1
    have h3 : xs[i]? = some (xs[i]'(by omega)) := List.getElem?_eq_getElem (by omega)
    rw [h3] at h1
    rw [List.getElem?_map, List.getElem?_map, h3, List.getElem?_eq_getElem (by omega)]
    simp only [Option.map_some, Option.some.injEq]
    generalize xs[i]'(by omega) = y at h1
    rcases he with he | ⟨q, he⟩
    · obtain ⟨s, e1, e2, _⟩ := DataW.trod_string he h1
      rw [e2]
      simp only [List.cons.injEq, and_true] at e1
      rw [e1]; rfl
    · obtain ⟨n, e1, e2, _⟩ := DataW.trod_int he h1
      rw [e2]
      simp only [List.cons.injEq, and_true] at e1
      rw [e1]; rfl
  · rw [List.getElem?_eq_none (by omega), List.getElem?_eq_none (by simp; omega)]
theorem trod_flt {k : FloatKind} {w : World} {base : Nat} {spare : Nat → Bool} {held : Bool} {fuel : Nat} {t : TypeId} {cs : List Value} {x : DataW H × List MemPlace} (ht : P.underlying t = some (.float k)) (h : DataW.trod enc P w base spare held fuel t cs = some x) : ∃ n, cs = [.float k n] ∧ x = (.lit (.float k n), []) := by
  cases fuel with
  | zero => simp [DataW.trod] at h
  | succ n =>
    unfold DataW.trod at h
    rw [ht] at h
    split at h <;> simp_all
/-- An array of floats, opened. -/
theorem arr_openF {t e : TypeId} {k fuel : Nat} {fk : FloatKind} {cs : List Value} {ds : List (DataW H)} {p : List MemPlace} (ht : P.underlying t = some (.array k e)) (hc : P.cellsOf e = 1) (hct : P.cellsOf t = k)
    (he : P.underlying e = some (.float fk)) (h : DataW.trod enc P W 0 (fun _ => true) false fuel t cs = some (.agg ds, p)) : cs = ds.map datV := by
  obtain ⟨xs, m, rfl, hx, hlen, hn, hel⟩ := DataW.trod_array ht h
  simp only [Prod.mk.injEq, DataW.agg.injEq] at hx
  rw [hct] at hlen
  obtain ⟨rfl, _⟩ := hx
  apply List.ext_getElem?
  intro i
  by_cases hi : i < k
  · have h1 := hel i hi
    rw [hc, Nat.mul_one] at h1
    have h2 : (cs.drop i).take 1 = [cs[i]'(by omega)] := by
      rw [List.drop_eq_getElem_cons (by omega)]; rfl
    rw [h2] at h1
    have h3 : xs[i]? = some (xs[i]'(by omega)) := List.getElem?_eq_getElem (by omega)
    rw [h3] at h1
    rw [List.getElem?_map, List.getElem?_map, h3, List.getElem?_eq_getElem (by omega)]
    simp only [Option.map_some, Option.some.injEq]
    generalize xs[i]'(by omega) = y at h1
    obtain ⟨n, e1, e2⟩ := trod_flt he h1
    rw [e2]
    simp only [List.cons.injEq, and_true] at e1
    rw [e1]; rfl
  · rw [List.getElem?_eq_none (by omega), List.getElem?_eq_none (by simp; omega)]
/-- One variable's cells. -/
theorem var_known {n : String} {g : Nat} {cs : Array Value} {vs : List Value} (hg : P.globalNamed n = some g) (hv : W.var? P n = some cs) (h : cs.toList = vs) (h1 : vs.all (·.oneCell') = true) :
    g < W.heap.size ∧ okAll W g ∧ (∀ i, i < vs.length → W.cell? ⟨g, i, none⟩ = some (vs.getD i undef) ∧ (vs.getD i undef).oneCell' = true) ∧ ∃ x y, W.heap[g]? = some (.cells vs.toArray x y) := by
  have hlt : g < W.heap.size := by
    simp only [World.var?, hg, Option.bind_some] at hv
    split at hv
    · rename_i q; exact (Array.getElem?_eq_some_iff.1 q).1
    · cases hv
  have hblk : ∃ x y, W.heap[g]? = some (.cells vs.toArray x y) := by
    simp only [World.var?, hg, Option.bind_some] at hv
    split at hv
    · rename_i cs' x y q
      injection hv with hv
      subst hv
      subst h
      exact ⟨x, y, by rw [q]⟩
    · cases hv
  refine ⟨hlt, hlt, fun i hi => ?_, hblk⟩
  rw [World.var?_cell hg hv i]
  subst h
  have hi' : i < cs.size := by simpa using hi
  refine ⟨by simp [hi'], ?_⟩
  have := List.all_eq_true.1 h1 (cs.toList.getD i undef) (by simp [List.getD_eq_getElem?_getD, hi'])
  exact this
end
end Go.Proofs.YtdlakpomcafemaaDoor
/- effects of turns: what the run ends in. -/
namespace Go.Proofs.YtdlakpomcafemaaDoor
open Go.RowKit
set_option linter.unusedVariables false
set_option maxRecDepth 100000
namespace EffT
--GAMMA
def Γ : FuncId → Option Ca := fun f =>
  if f = 14 ∨ f = 20 ∨ f = 16 ∨ f = 18 ∨ f = 4 ∨ f = 6 ∨ f = 25 ∨ f = 8 ∨ f = 54 then some (.fn .sc)
  else if f = 21 ∨ f = 48 ∨ f = 49 ∨ f = 26 then some (.fn (.tup [.sc, .sc]))
  else if f = 27 then some (.fn (.tup [.agg [.sc, .sc], .sc]))
  else if f = 23 then some (.fn (.row 39 6 true))
  else if f = 7 then some (.fn (.tup [.p, .sc]))
  else if f = 5 then some (.fn (.tup [.row 39 6 true, .sc]))
  else some .inl
def ann : FuncId → Nat → LoopEx := fun f r =>
  if f = 34 then ⟨[], [321], [], []⟩
  else if f = 35 then ⟨[], [1345], [(1601, 0), (1601, 1), (1601, 2), (1601, 3), (1601, 4), (1601, 5)], []⟩
  else if f = 7 ∧ r = 25 then ⟨[], [], [(5761, 0), (5761, 1), (5761, 2), (5761, 3), (5761, 4), (5761, 5)], []⟩
  else if f = 7 ∧ r = 35 then ⟨[], [897], [(4993, 0), (4993, 1), (4993, 2), (4993, 3), (4993, 4), (4993, 5)], []⟩
  else ⟨[], [], [], []⟩
--END GAMMA
theorem speed_form (x0 r : AV) : fnF Tryd.prog Γ ann 3 54 Tryd.f54 (Tryd.f54.body.getD .skip) (.nil) [x0] (.sc) r = (((AV.isAgg x0 22) ∧
((AV.isSl (AV.cel x0 5) 6) ∧
((AV.inb (AV.cel x0 5) (AV.int 0)) ∧
(∃ r769 : AV, ((Fn Tryd.prog 26 [(AV.agg [(AV.cel x0 7), (AV.cel x0 8)]), (AV.atAgg (AV.cel x0 5) (AV.int 0) 1 2)] (Sh.tup [Sh.sc, Sh.sc]) r769) ∧
((AV.isSl (AV.cel x0 5) 6) ∧
((AV.inb (AV.cel x0 5) (AV.int 0)) ∧
((AV.binOk Go.BinOp.sub (AV.at (AV.cel x0 5) (AV.int 0) 0) (AV.cel x0 6)) ∧
((AV.binOk Go.BinOp.quo (AV.prj r769 0) (AV.bin Go.BinOp.sub (AV.at (AV.cel x0 5) (AV.int 0) 0) (AV.cel x0 6))) ∧
((AV.flat (AV.bin Go.BinOp.quo (AV.prj r769 0) (AV.bin Go.BinOp.sub (AV.at (AV.cel x0 5) (AV.int 0) 0) (AV.cel x0 6)))) ∧
(fSame (AV.bin Go.BinOp.quo (AV.prj r769 0) (AV.bin Go.BinOp.sub (AV.at (AV.cel x0 5) (AV.int 0) 0) (AV.cel x0 6))) r)))))))))))) := by kernel_rfl
theorem heading_form (x0 r : AV) : fnF Tryd.prog Γ ann 3 34 Tryd.f34 (Tryd.f34.body.getD .skip) (.nil) [x0] (.tup [.row 39 6 true, .sc]) r = (((AV.isAgg x0 22) ∧
(∃ r321 : AV, ((Fn Tryd.prog 23 [(AV.cel x0 5)] (Sh.row 39 6 true) r321) ∧
(fLoop 641 [(AV.int 0), r321] fun ys641 again641 =>
  ((AV.binOk Go.BinOp.lss (ys641.getD 0 default) (AV.len r321)) ∧
  ((AV.isBool (AV.bin Go.BinOp.lss (ys641.getD 0 default) (AV.len r321))) ∧
  (((isT (AV.bin Go.BinOp.lss (ys641.getD 0 default) (AV.len r321))) →
    (∃ r1089 : AV, ((Fn Tryd.prog 54 [(AV.agg [(AV.cel x0 0), (AV.cel x0 1), (AV.cel x0 2), (AV.cel x0 3), (AV.cel x0 4), (AV.cel x0 5), (AV.cel x0 6), (AV.cel x0 7), (AV.cel x0 8), (AV.cel x0 9), (AV.cel x0 10), (AV.cel x0 11), (AV.cel x0 12), (AV.cel x0 13), (AV.cel x0 14), (AV.cel x0 15), (AV.cel x0 16), (AV.cel x0 17), (AV.cel x0 18), (AV.cel x0 19), (AV.cel x0 20), (AV.cel x0 21)])] Sh.sc r1089) ∧
    ((AV.inb (ys641.getD 1 default) (ys641.getD 0 default)) ∧
    ((AV.inb (ys641.getD 1 default) (ys641.getD 0 default)) ∧
    ((AV.binOk Go.BinOp.sub (AV.at (ys641.getD 1 default) (ys641.getD 0 default) 0) (AV.cel x0 6)) ∧
    ((AV.binOk Go.BinOp.mul r1089 (AV.bin Go.BinOp.sub (AV.at (ys641.getD 1 default) (ys641.getD 0 default) 0) (AV.cel x0 6))) ∧
    (∃ r1921 : AV, ((Fn Tryd.prog 27 [(AV.cel x0 2), (AV.bin Go.BinOp.mul r1089 (AV.bin Go.BinOp.sub (AV.at (ys641.getD 1 default) (ys641.getD 0 default) 0) (AV.cel x0 6)))] (Sh.tup [(Sh.agg [Sh.sc, Sh.sc]), Sh.sc]) r1921) ∧
    ((AV.binOk Go.BinOp.neq (AV.prj r1921 1) (AV.int 0)) ∧
    ((AV.isBool (AV.bin Go.BinOp.neq (AV.prj r1921 1) (AV.int 0))) ∧
    (((isT (AV.bin Go.BinOp.neq (AV.prj r1921 1) (AV.int 0))) →
      ((AV.flatS (AV.mk 6 [])) ∧
      ((AV.flat (AV.prj r1921 1)) ∧
      (fSame (AV.tup [(AV.mk 6 []), (AV.prj r1921 1)]) r)))) ∧
    ((isF (AV.bin Go.BinOp.neq (AV.prj r1921 1) (AV.int 0))) →
      ((fEnt Tryd.prog 55) ∧
      (fAllV fun _ => ((AV.binOk Go.BinOp.add (AV.cel x0 7) (AV.cel (AV.prj r1921 0) 0)) ∧
      ((AV.binOk Go.BinOp.add (AV.cel x0 8) (AV.cel (AV.prj r1921 0) 1)) ∧
      ((AV.isOne (AV.bin Go.BinOp.add (AV.cel x0 7) (AV.cel (AV.prj r1921 0) 0))) ∧
      ((AV.isOne (AV.bin Go.BinOp.add (AV.cel x0 8) (AV.cel (AV.prj r1921 0) 1))) ∧
      ((AV.inb (ys641.getD 1 default) (ys641.getD 0 default)) ∧
      ((AV.inb (ys641.getD 1 default) (ys641.getD 0 default)) ∧
      ((AV.inb (AV.setEl (ys641.getD 1 default) (ys641.getD 0 default) 1 [(AV.bin Go.BinOp.add (AV.cel x0 7) (AV.cel (AV.prj r1921 0) 0)), (AV.bin Go.BinOp.add (AV.cel x0 8) (AV.cel (AV.prj r1921 0) 1))]) (ys641.getD 0 default)) ∧
      ((AV.inb (AV.setEl (ys641.getD 1 default) (ys641.getD 0 default) 1 [(AV.bin Go.BinOp.add (AV.cel x0 7) (AV.cel (AV.prj r1921 0) 0)), (AV.bin Go.BinOp.add (AV.cel x0 8) (AV.cel (AV.prj r1921 0) 1))]) (ys641.getD 0 default)) ∧
      (∃ r4673 : AV, ((Fn Tryd.prog 20 [(AV.atAgg (AV.setEl (ys641.getD 1 default) (ys641.getD 0 default) 1 [(AV.bin Go.BinOp.add (AV.cel x0 7) (AV.cel (AV.prj r1921 0) 0)), (AV.bin Go.BinOp.add (AV.cel x0 8) (AV.cel (AV.prj r1921 0) 1))]) (ys641.getD 0 default) 1 2)] Sh.sc r4673) ∧
      ((AV.binOk Go.BinOp.neq r4673 (AV.int 0)) ∧
      ((AV.isBool (AV.bin Go.BinOp.neq r4673 (AV.int 0))) ∧
      (((isT (AV.bin Go.BinOp.neq r4673 (AV.int 0))) →
        ((AV.flatS (AV.mk 6 [])) ∧
        ((AV.flat r4673) ∧
        (fSame (AV.tup [(AV.mk 6 []), r4673]) r)))) ∧
      ((isF (AV.bin Go.BinOp.neq r4673 (AV.int 0))) →
        ((AV.binOk Go.BinOp.add (ys641.getD 0 default) (AV.int 1)) ∧
        (again641 [(AV.bin Go.BinOp.add (ys641.getD 0 default) (AV.int 1)), (AV.setEl (ys641.getD 1 default) (ys641.getD 0 default) 1 [(AV.bin Go.BinOp.add (AV.cel x0 7) (AV.cel (AV.prj r1921 0) 0)), (AV.bin Go.BinOp.add (AV.cel x0 8) (AV.cel (AV.prj r1921 0) 1))])]))))))))))))))))))))))))))))))) ∧
  ((isF (AV.bin Go.BinOp.lss (ys641.getD 0 default) (AV.len r321))) →
    ((AV.flatS (ys641.getD 1 default)) ∧
    ((AV.flat (AV.int 0)) ∧
    (fSame (AV.tup [(ys641.getD 1 default), (AV.int 0)]) r)))))))))))) := by kernel_rfl
theorem slower_form (x0 r : AV) : fnF Tryd.prog Γ ann 3 35 Tryd.f35 (Tryd.f35.body.getD .skip) (.nil) [x0] (.tup [.row 39 6 true, .sc]) r = (((AV.isAgg x0 22) ∧
((AV.binOk Go.BinOp.lss (AV.cel x0 2) (AV.cel x0 17)) ∧
((AV.isBool (AV.bin Go.BinOp.lss (AV.cel x0 2) (AV.cel x0 17))) ∧
(((isT (AV.bin Go.BinOp.lss (AV.cel x0 2) (AV.cel x0 17))) →
  ((AV.isBool (AV.bin Go.BinOp.lss (AV.cel x0 2) (AV.cel x0 17))) ∧
  ((isT (AV.bin Go.BinOp.lss (AV.cel x0 2) (AV.cel x0 17))) ∧
  ((AV.flatS (AV.mk 6 [])) ∧
  ((AV.flat (AV.int 4)) ∧
  (fSame (AV.tup [(AV.mk 6 []), (AV.int 4)]) r)))))) ∧
((isF (AV.bin Go.BinOp.lss (AV.cel x0 2) (AV.cel x0 17))) →
  ((AV.binOk Go.BinOp.gtr (AV.cel x0 2) (AV.cel x0 18)) ∧
  ((AV.isBool (AV.bin Go.BinOp.lss (AV.cel x0 2) (AV.cel x0 17))) ∧
  ((isF (AV.bin Go.BinOp.lss (AV.cel x0 2) (AV.cel x0 17))) ∧
  ((AV.isBool (AV.bin Go.BinOp.gtr (AV.cel x0 2) (AV.cel x0 18))) ∧
  (((isT (AV.bin Go.BinOp.gtr (AV.cel x0 2) (AV.cel x0 18))) →
    ((AV.flatS (AV.mk 6 [])) ∧
    ((AV.flat (AV.int 4)) ∧
    (fSame (AV.tup [(AV.mk 6 []), (AV.int 4)]) r)))) ∧
  ((isF (AV.bin Go.BinOp.gtr (AV.cel x0 2) (AV.cel x0 18))) →
    (∃ r1345 : AV, ((Fn Tryd.prog 23 [(AV.cel x0 5)] (Sh.row 39 6 true) r1345) ∧
    (fLoop 1921 [(AV.int 0), r1345, (AV.cel x0 6), (AV.cel x0 7), (AV.cel x0 8), (AV.cel x0 9), (AV.cel x0 10), (AV.cel x0 11)] fun ys1921 again1921 =>
      ((AV.binOk Go.BinOp.lss (ys1921.getD 0 default) (AV.len r1345)) ∧
      ((AV.isBool (AV.bin Go.BinOp.lss (ys1921.getD 0 default) (AV.len r1345))) ∧
      (((isT (AV.bin Go.BinOp.lss (ys1921.getD 0 default) (AV.len r1345))) →
        ((AV.inb (ys1921.getD 1 default) (ys1921.getD 0 default)) ∧
        ((AV.inb (ys1921.getD 1 default) (ys1921.getD 0 default)) ∧
        (∃ r2689 : AV, ((Fn Tryd.prog 26 [(AV.agg [(ys1921.getD 3 default), (ys1921.getD 4 default)]), (AV.atAgg (ys1921.getD 1 default) (ys1921.getD 0 default) 1 2)] (Sh.tup [Sh.sc, Sh.sc]) r2689) ∧
        (∃ r3329 : AV, ((Fn Tryd.prog 49 [(AV.prj r2689 1), (AV.cel x0 2)] (Sh.tup [Sh.sc, Sh.sc]) r3329) ∧
        ((AV.isInt (AV.int 1)) ∧
        ((AV.isInt (AV.prj r3329 0)) ∧
        ((AV.binOk Go.BinOp.add (ys1921.getD 2 default) (AV.mx (AV.int 1) (AV.prj r3329 0))) ∧
        ((AV.inb (ys1921.getD 1 default) (ys1921.getD 0 default)) ∧
        ((AV.isOne (AV.bin Go.BinOp.add (ys1921.getD 2 default) (AV.mx (AV.int 1) (AV.prj r3329 0)))) ∧
        ((AV.inb (ys1921.getD 1 default) (ys1921.getD 0 default)) ∧
        ((AV.inb (AV.setEl (ys1921.getD 1 default) (ys1921.getD 0 default) 0 [(AV.bin Go.BinOp.add (ys1921.getD 2 default) (AV.mx (AV.int 1) (AV.prj r3329 0)))]) (ys1921.getD 0 default)) ∧
        ((AV.inb (AV.setEl (ys1921.getD 1 default) (ys1921.getD 0 default) 0 [(AV.bin Go.BinOp.add (ys1921.getD 2 default) (AV.mx (AV.int 1) (AV.prj r3329 0)))]) (ys1921.getD 0 default)) ∧
        ((AV.binOk Go.BinOp.gtr (AV.at (AV.setEl (ys1921.getD 1 default) (ys1921.getD 0 default) 0 [(AV.bin Go.BinOp.add (ys1921.getD 2 default) (AV.mx (AV.int 1) (AV.prj r3329 0)))]) (ys1921.getD 0 default) 0) (AV.int 200000)) ∧
        ((AV.isBool (AV.bin Go.BinOp.gtr (AV.at (AV.setEl (ys1921.getD 1 default) (ys1921.getD 0 default) 0 [(AV.bin Go.BinOp.add (ys1921.getD 2 default) (AV.mx (AV.int 1) (AV.prj r3329 0)))]) (ys1921.getD 0 default) 0) (AV.int 200000))) ∧
        (((isT (AV.bin Go.BinOp.gtr (AV.at (AV.setEl (ys1921.getD 1 default) (ys1921.getD 0 default) 0 [(AV.bin Go.BinOp.add (ys1921.getD 2 default) (AV.mx (AV.int 1) (AV.prj r3329 0)))]) (ys1921.getD 0 default) 0) (AV.int 200000))) →
          ((AV.flatS (AV.mk 6 [])) ∧
          ((AV.flat (AV.int 12)) ∧
          (fSame (AV.tup [(AV.mk 6 []), (AV.int 12)]) r)))) ∧
        ((isF (AV.bin Go.BinOp.gtr (AV.at (AV.setEl (ys1921.getD 1 default) (ys1921.getD 0 default) 0 [(AV.bin Go.BinOp.add (ys1921.getD 2 default) (AV.mx (AV.int 1) (AV.prj r3329 0)))]) (ys1921.getD 0 default) 0) (AV.int 200000))) →
          ((AV.inb (AV.setEl (ys1921.getD 1 default) (ys1921.getD 0 default) 0 [(AV.bin Go.BinOp.add (ys1921.getD 2 default) (AV.mx (AV.int 1) (AV.prj r3329 0)))]) (ys1921.getD 0 default)) ∧
          ((AV.inb (AV.setEl (ys1921.getD 1 default) (ys1921.getD 0 default) 0 [(AV.bin Go.BinOp.add (ys1921.getD 2 default) (AV.mx (AV.int 1) (AV.prj r3329 0)))]) (ys1921.getD 0 default)) ∧
          ((AV.isAgg (AV.atAgg (AV.setEl (ys1921.getD 1 default) (ys1921.getD 0 default) 0 [(AV.bin Go.BinOp.add (ys1921.getD 2 default) (AV.mx (AV.int 1) (AV.prj r3329 0)))]) (ys1921.getD 0 default) 0 6) 6) ∧
          ((AV.binOk Go.BinOp.add (ys1921.getD 0 default) (AV.int 1)) ∧
          (again1921 [(AV.bin Go.BinOp.add (ys1921.getD 0 default) (AV.int 1)), (AV.setEl (ys1921.getD 1 default) (ys1921.getD 0 default) 0 [(AV.bin Go.BinOp.add (ys1921.getD 2 default) (AV.mx (AV.int 1) (AV.prj r3329 0)))]), (AV.cel (AV.atAgg (AV.setEl (ys1921.getD 1 default) (ys1921.getD 0 default) 0 [(AV.bin Go.BinOp.add (ys1921.getD 2 default) (AV.mx (AV.int 1) (AV.prj r3329 0)))]) (ys1921.getD 0 default) 0 6) 0), (AV.cel (AV.atAgg (AV.setEl (ys1921.getD 1 default) (ys1921.getD 0 default) 0 [(AV.bin Go.BinOp.add (ys1921.getD 2 default) (AV.mx (AV.int 1) (AV.prj r3329 0)))]) (ys1921.getD 0 default) 0 6) 1), (AV.cel (AV.atAgg (AV.setEl (ys1921.getD 1 default) (ys1921.getD 0 default) 0 [(AV.bin Go.BinOp.add (ys1921.getD 2 default) (AV.mx (AV.int 1) (AV.prj r3329 0)))]) (ys1921.getD 0 default) 0 6) 2), (AV.cel (AV.atAgg (AV.setEl (ys1921.getD 1 default) (ys1921.getD 0 default) 0 [(AV.bin Go.BinOp.add (ys1921.getD 2 default) (AV.mx (AV.int 1) (AV.prj r3329 0)))]) (ys1921.getD 0 default) 0 6) 3), (AV.cel (AV.atAgg (AV.setEl (ys1921.getD 1 default) (ys1921.getD 0 default) 0 [(AV.bin Go.BinOp.add (ys1921.getD 2 default) (AV.mx (AV.int 1) (AV.prj r3329 0)))]) (ys1921.getD 0 default) 0 6) 4), (AV.cel (AV.atAgg (AV.setEl (ys1921.getD 1 default) (ys1921.getD 0 default) 0 [(AV.bin Go.BinOp.add (ys1921.getD 2 default) (AV.mx (AV.int 1) (AV.prj r3329 0)))]) (ys1921.getD 0 default) 0 6) 5)])))))))))))))))))))))))) ∧
      ((isF (AV.bin Go.BinOp.lss (ys1921.getD 0 default) (AV.len r1345))) →
        ((AV.flatS (ys1921.getD 1 default)) ∧
        ((AV.flat (AV.int 0)) ∧
        (fSame (AV.tup [(ys1921.getD 1 default), (AV.int 0)]) r)))))))))))))))))))))) := by kernel_rfl
theorem direct_form (x0 r : AV) : fnF Tryd.prog Γ ann 3 36 Tryd.f36 (Tryd.f36.body.getD .skip) (.nil) [x0] (.tup [.row 39 6 true, .sc]) r = (((AV.isAgg x0 22) ∧
(∃ r257 : AV, ((Fn Tryd.prog 54 [(AV.agg [(AV.cel x0 0), (AV.cel x0 1), (AV.cel x0 2), (AV.cel x0 3), (AV.cel x0 4), (AV.cel x0 5), (AV.cel x0 6), (AV.cel x0 7), (AV.cel x0 8), (AV.cel x0 9), (AV.cel x0 10), (AV.cel x0 11), (AV.cel x0 12), (AV.cel x0 13), (AV.cel x0 14), (AV.cel x0 15), (AV.cel x0 16), (AV.cel x0 17), (AV.cel x0 18), (AV.cel x0 19), (AV.cel x0 20), (AV.cel x0 21)])] Sh.sc r257) ∧
((AV.binOk Go.BinOp.eql r257 (AV.int 0)) ∧
((AV.isBool (AV.bin Go.BinOp.eql r257 (AV.int 0))) ∧
(((isT (AV.bin Go.BinOp.eql r257 (AV.int 0))) →
  ((AV.flatS (AV.mk 6 [])) ∧
  ((AV.flat (AV.int 10)) ∧
  (fSame (AV.tup [(AV.mk 6 []), (AV.int 10)]) r)))) ∧
((isF (AV.bin Go.BinOp.eql r257 (AV.int 0))) →
  (∃ r897 : AV, ((Fn Tryd.prog 26 [(AV.agg [(AV.cel x0 7), (AV.cel x0 8)]), (AV.agg [(AV.cel x0 19), (AV.cel x0 20)])] (Sh.tup [Sh.sc, Sh.sc]) r897) ∧
  ((AV.binOk Go.BinOp.eql (AV.prj r897 1) (AV.int 0)) ∧
  ((AV.isBool (AV.bin Go.BinOp.eql (AV.prj r897 1) (AV.int 0))) ∧
  (((isT (AV.bin Go.BinOp.eql (AV.prj r897 1) (AV.int 0))) →
    ((AV.flatS (AV.mk 6 [])) ∧
    ((AV.flat (AV.int 0)) ∧
    (fSame (AV.tup [(AV.mk 6 []), (AV.int 0)]) r)))) ∧
  ((isF (AV.bin Go.BinOp.eql (AV.prj r897 1) (AV.int 0))) →
    (∃ r1537 : AV, ((Fn Tryd.prog 49 [(AV.prj r897 1), r257] (Sh.tup [Sh.sc, Sh.sc]) r1537) ∧
    ((AV.binOk Go.BinOp.add (AV.cel x0 6) (AV.prj r1537 0)) ∧
    ((AV.isOne (AV.bin Go.BinOp.add (AV.cel x0 6) (AV.prj r1537 0))) ∧
    ((AV.binOk Go.BinOp.gtr (AV.bin Go.BinOp.add (AV.cel x0 6) (AV.prj r1537 0)) (AV.int 200000)) ∧
    ((AV.isBool (AV.bin Go.BinOp.gtr (AV.bin Go.BinOp.add (AV.cel x0 6) (AV.prj r1537 0)) (AV.int 200000))) ∧
    (((isT (AV.bin Go.BinOp.gtr (AV.bin Go.BinOp.add (AV.cel x0 6) (AV.prj r1537 0)) (AV.int 200000))) →
      ((AV.flatS (AV.mk 6 [])) ∧
      ((AV.flat (AV.int 12)) ∧
      (fSame (AV.tup [(AV.mk 6 []), (AV.int 12)]) r)))) ∧
    ((isF (AV.bin Go.BinOp.gtr (AV.bin Go.BinOp.add (AV.cel x0 6) (AV.prj r1537 0)) (AV.int 200000))) →
      ((AV.flatS (AV.mk 6 [[(AV.bin Go.BinOp.add (AV.cel x0 6) (AV.prj r1537 0)), (AV.cel x0 19), (AV.cel x0 20), (AV.cel x0 9), (AV.cel x0 10), (AV.cel x0 11)]])) ∧
      ((AV.flat (AV.int 0)) ∧
      (fSame (AV.tup [(AV.mk 6 [[(AV.bin Go.BinOp.add (AV.cel x0 6) (AV.prj r1537 0)), (AV.cel x0 19), (AV.cel x0 20), (AV.cel x0 9), (AV.cel x0 10), (AV.cel x0 11)]]), (AV.int 0)]) r))))))))))))))))))))))))) := by kernel_rfl
theorem eerr_form (x0 x1 x2 x3 x4 r : AV) : fnF Tryd.prog Γ ann 3 6 Tryd.f6 (Tryd.f6.body.getD .skip) (.nil) [x0, x1, x2, x3, x4] (.sc) r = (((AV.isAgg x1 4) ∧
((AV.isAgg x3 7) ∧
((AV.isAgg x4 2) ∧
(∃ r321 : AV, ((Fn Tryd.prog 14 [x0] Sh.sc r321) ∧
((AV.binOk Go.BinOp.neq r321 (AV.int 0)) ∧
((AV.isBool (AV.bin Go.BinOp.neq r321 (AV.int 0))) ∧
(((isT (AV.bin Go.BinOp.neq r321 (AV.int 0))) →
  ((AV.flat r321) ∧
  (fSame r321 r))) ∧
((isF (AV.bin Go.BinOp.neq r321 (AV.int 0))) →
  (∃ r641 : AV, ((Fn Tryd.prog 25 [(AV.agg [(AV.cel x1 0), (AV.cel x1 1), (AV.cel x1 2), (AV.cel x1 3)])] Sh.sc r641) ∧
  ((AV.binOk Go.BinOp.neq r641 (AV.int 0)) ∧
  ((AV.isBool (AV.bin Go.BinOp.neq r641 (AV.int 0))) ∧
  (((isT (AV.bin Go.BinOp.neq r641 (AV.int 0))) →
    ((AV.flat r641) ∧
    (fSame r641 r))) ∧
  ((isF (AV.bin Go.BinOp.neq r641 (AV.int 0))) →
    (∃ r961 : AV, ((Fn Tryd.prog 18 [(AV.agg [(AV.cel x3 0), (AV.cel x3 1), (AV.cel x3 2), (AV.cel x3 3), (AV.cel x3 4), (AV.cel x3 5), (AV.cel x3 6)])] Sh.sc r961) ∧
    ((AV.binOk Go.BinOp.neq r961 (AV.int 0)) ∧
    ((AV.isBool (AV.bin Go.BinOp.neq r961 (AV.int 0))) ∧
    (((isT (AV.bin Go.BinOp.neq r961 (AV.int 0))) →
      ((AV.flat r961) ∧
      (fSame r961 r))) ∧
    ((isF (AV.bin Go.BinOp.neq r961 (AV.int 0))) →
      (∃ r1281 : AV, ((Fn Tryd.prog 20 [(AV.agg [(AV.cel x4 0), (AV.cel x4 1)])] Sh.sc r1281) ∧
      ((AV.binOk Go.BinOp.neq r1281 (AV.int 0)) ∧
      ((AV.isBool (AV.bin Go.BinOp.neq r1281 (AV.int 0))) ∧
      (((isT (AV.bin Go.BinOp.neq r1281 (AV.int 0))) →
        ((AV.flat r1281) ∧
        (fSame r1281 r))) ∧
      ((isF (AV.bin Go.BinOp.neq r1281 (AV.int 0))) →
        ((AV.isSl x0 6) ∧
        ((AV.inb x0 (AV.int 0)) ∧
        ((AV.binOk Go.BinOp.lss x2 (AV.at x0 (AV.int 0) 0)) ∧
        ((AV.isBool (AV.bin Go.BinOp.lss x2 (AV.at x0 (AV.int 0) 0))) ∧
        (((isT (AV.bin Go.BinOp.lss x2 (AV.at x0 (AV.int 0) 0))) →
          ((AV.isBool (AV.bin Go.BinOp.lss x2 (AV.at x0 (AV.int 0) 0))) ∧
          ((isT (AV.bin Go.BinOp.lss x2 (AV.at x0 (AV.int 0) 0))) ∧
          ((AV.flat (AV.int 12)) ∧
          (fSame (AV.int 12) r))))) ∧
        ((isF (AV.bin Go.BinOp.lss x2 (AV.at x0 (AV.int 0) 0))) →
          ((AV.isSl x0 6) ∧
          ((AV.binOk Go.BinOp.sub (AV.len x0) (AV.int 1)) ∧
          ((AV.isSl x0 6) ∧
          ((AV.inb x0 (AV.bin Go.BinOp.sub (AV.len x0) (AV.int 1))) ∧
          ((AV.binOk Go.BinOp.gtr x2 (AV.at x0 (AV.bin Go.BinOp.sub (AV.len x0) (AV.int 1)) 0)) ∧
          ((AV.isBool (AV.bin Go.BinOp.lss x2 (AV.at x0 (AV.int 0) 0))) ∧
          ((isF (AV.bin Go.BinOp.lss x2 (AV.at x0 (AV.int 0) 0))) ∧
          ((AV.isBool (AV.bin Go.BinOp.gtr x2 (AV.at x0 (AV.bin Go.BinOp.sub (AV.len x0) (AV.int 1)) 0))) ∧
          (((isT (AV.bin Go.BinOp.gtr x2 (AV.at x0 (AV.bin Go.BinOp.sub (AV.len x0) (AV.int 1)) 0))) →
            ((AV.flat (AV.int 12)) ∧
            (fSame (AV.int 12) r))) ∧
          ((isF (AV.bin Go.BinOp.gtr x2 (AV.at x0 (AV.bin Go.BinOp.sub (AV.len x0) (AV.int 1)) 0))) →
            ((AV.flat (AV.int 0)) ∧
            (fSame (AV.int 0) r)))))))))))))))))))))))))))))))))))))))))))))) := by kernel_rfl
theorem equal_form (x0 x1 r : AV) : fnF Tryd.prog Γ ann 3 8 Tryd.f8 (Tryd.f8.body.getD .skip) (.nil) [x0, x1] (.sc) r = (((AV.isSl x0 6) ∧
((AV.isSl x1 6) ∧
((AV.binOk Go.BinOp.neq (AV.len x0) (AV.len x1)) ∧
((AV.isBool (AV.bin Go.BinOp.neq (AV.len x0) (AV.len x1))) ∧
(((isT (AV.bin Go.BinOp.neq (AV.len x0) (AV.len x1))) →
  ((AV.flat (AV.bool false)) ∧
  (fSame (AV.bool false) r))) ∧
((isF (AV.bin Go.BinOp.neq (AV.len x0) (AV.len x1))) →
  ((AV.isSl x0 6) ∧
  (fLoop 577 [(AV.int 0)] fun ys577 again577 =>
    ((AV.binOk Go.BinOp.lss (ys577.getD 0 default) (AV.len x0)) ∧
    ((AV.isBool (AV.bin Go.BinOp.lss (ys577.getD 0 default) (AV.len x0))) ∧
    (((isT (AV.bin Go.BinOp.lss (ys577.getD 0 default) (AV.len x0))) →
      ((AV.isSl x0 6) ∧
      ((AV.inb x0 (ys577.getD 0 default)) ∧
      ((AV.isSl x1 6) ∧
      ((AV.inb x1 (ys577.getD 0 default)) ∧
      ((AV.eqPlOk [(0, (EK.int Go.IntKind.i64)), (1, (EK.int Go.IntKind.i64)), (2, (EK.int Go.IntKind.i64)), (3, (EK.int Go.IntKind.i64)), (4, (EK.int Go.IntKind.i64)), (5, (EK.int Go.IntKind.i64))] [(AV.cel (AV.atAgg x0 (ys577.getD 0 default) 0 6) 0), (AV.cel (AV.atAgg x0 (ys577.getD 0 default) 0 6) 1), (AV.cel (AV.atAgg x0 (ys577.getD 0 default) 0 6) 2), (AV.cel (AV.atAgg x0 (ys577.getD 0 default) 0 6) 3), (AV.cel (AV.atAgg x0 (ys577.getD 0 default) 0 6) 4), (AV.cel (AV.atAgg x0 (ys577.getD 0 default) 0 6) 5)] [(AV.cel (AV.atAgg x1 (ys577.getD 0 default) 0 6) 0), (AV.cel (AV.atAgg x1 (ys577.getD 0 default) 0 6) 1), (AV.cel (AV.atAgg x1 (ys577.getD 0 default) 0 6) 2), (AV.cel (AV.atAgg x1 (ys577.getD 0 default) 0 6) 3), (AV.cel (AV.atAgg x1 (ys577.getD 0 default) 0 6) 4), (AV.cel (AV.atAgg x1 (ys577.getD 0 default) 0 6) 5)]) ∧
      ((AV.isAgg (AV.atAgg x0 (ys577.getD 0 default) 0 6) 6) ∧
      ((AV.isAgg (AV.atAgg x1 (ys577.getD 0 default) 0 6) 6) ∧
      ((AV.isBool (AV.nePl [(0, (EK.int Go.IntKind.i64)), (1, (EK.int Go.IntKind.i64)), (2, (EK.int Go.IntKind.i64)), (3, (EK.int Go.IntKind.i64)), (4, (EK.int Go.IntKind.i64)), (5, (EK.int Go.IntKind.i64))] [(AV.cel (AV.atAgg x0 (ys577.getD 0 default) 0 6) 0), (AV.cel (AV.atAgg x0 (ys577.getD 0 default) 0 6) 1), (AV.cel (AV.atAgg x0 (ys577.getD 0 default) 0 6) 2), (AV.cel (AV.atAgg x0 (ys577.getD 0 default) 0 6) 3), (AV.cel (AV.atAgg x0 (ys577.getD 0 default) 0 6) 4), (AV.cel (AV.atAgg x0 (ys577.getD 0 default) 0 6) 5)] [(AV.cel (AV.atAgg x1 (ys577.getD 0 default) 0 6) 0), (AV.cel (AV.atAgg x1 (ys577.getD 0 default) 0 6) 1), (AV.cel (AV.atAgg x1 (ys577.getD 0 default) 0 6) 2), (AV.cel (AV.atAgg x1 (ys577.getD 0 default) 0 6) 3), (AV.cel (AV.atAgg x1 (ys577.getD 0 default) 0 6) 4), (AV.cel (AV.atAgg x1 (ys577.getD 0 default) 0 6) 5)])) ∧
      (((isT (AV.nePl [(0, (EK.int Go.IntKind.i64)), (1, (EK.int Go.IntKind.i64)), (2, (EK.int Go.IntKind.i64)), (3, (EK.int Go.IntKind.i64)), (4, (EK.int Go.IntKind.i64)), (5, (EK.int Go.IntKind.i64))] [(AV.cel (AV.atAgg x0 (ys577.getD 0 default) 0 6) 0), (AV.cel (AV.atAgg x0 (ys577.getD 0 default) 0 6) 1), (AV.cel (AV.atAgg x0 (ys577.getD 0 default) 0 6) 2), (AV.cel (AV.atAgg x0 (ys577.getD 0 default) 0 6) 3), (AV.cel (AV.atAgg x0 (ys577.getD 0 default) 0 6) 4), (AV.cel (AV.atAgg x0 (ys577.getD 0 default) 0 6) 5)] [(AV.cel (AV.atAgg x1 (ys577.getD 0 default) 0 6) 0), (AV.cel (AV.atAgg x1 (ys577.getD 0 default) 0 6) 1), (AV.cel (AV.atAgg x1 (ys577.getD 0 default) 0 6) 2), (AV.cel (AV.atAgg x1 (ys577.getD 0 default) 0 6) 3), (AV.cel (AV.atAgg x1 (ys577.getD 0 default) 0 6) 4), (AV.cel (AV.atAgg x1 (ys577.getD 0 default) 0 6) 5)])) →
        ((AV.flat (AV.bool false)) ∧
        (fSame (AV.bool false) r))) ∧
      ((isF (AV.nePl [(0, (EK.int Go.IntKind.i64)), (1, (EK.int Go.IntKind.i64)), (2, (EK.int Go.IntKind.i64)), (3, (EK.int Go.IntKind.i64)), (4, (EK.int Go.IntKind.i64)), (5, (EK.int Go.IntKind.i64))] [(AV.cel (AV.atAgg x0 (ys577.getD 0 default) 0 6) 0), (AV.cel (AV.atAgg x0 (ys577.getD 0 default) 0 6) 1), (AV.cel (AV.atAgg x0 (ys577.getD 0 default) 0 6) 2), (AV.cel (AV.atAgg x0 (ys577.getD 0 default) 0 6) 3), (AV.cel (AV.atAgg x0 (ys577.getD 0 default) 0 6) 4), (AV.cel (AV.atAgg x0 (ys577.getD 0 default) 0 6) 5)] [(AV.cel (AV.atAgg x1 (ys577.getD 0 default) 0 6) 0), (AV.cel (AV.atAgg x1 (ys577.getD 0 default) 0 6) 1), (AV.cel (AV.atAgg x1 (ys577.getD 0 default) 0 6) 2), (AV.cel (AV.atAgg x1 (ys577.getD 0 default) 0 6) 3), (AV.cel (AV.atAgg x1 (ys577.getD 0 default) 0 6) 4), (AV.cel (AV.atAgg x1 (ys577.getD 0 default) 0 6) 5)])) →
        ((AV.binOk Go.BinOp.add (ys577.getD 0 default) (AV.int 1)) ∧
        (again577 [(AV.bin Go.BinOp.add (ys577.getD 0 default) (AV.int 1))]))))))))))))) ∧
    ((isF (AV.bin Go.BinOp.lss (ys577.getD 0 default) (AV.len x0))) →
      ((AV.flat (AV.bool true)) ∧
      (fSame (AV.bool true) r))))))))))))))) := by kernel_rfl
end EffT
end Go.Proofs.YtdlakpomcafemaaDoor
/- plane: distances: what the run ends in. -/
namespace Go.Proofs.YtdlakpomcafemaaDoor
open Go.RowKit
set_option linter.unusedVariables false
set_option maxRecDepth 100000
namespace DisF
--GAMMA
def Γ : FuncId → Option Ca := fun f =>
  if f = 39 ∨ f = 40 then some (.fn .sc)
  else if f = 26 then some (.fn (.tup [.sc, .sc]))
  else some .inl
def ann : FuncId → Nat → LoopEx := fun f r => ⟨[], [], [], []⟩
--END GAMMA
theorem root_form (x0 r : AV) : fnF Tryd.prog Γ ann 3 40 Tryd.f40 (Tryd.f40.body.getD .skip) (.nil) [x0] (.sc) r = (((AV.binOk Go.BinOp.leq x0 (AV.int 0)) ∧
((AV.isBool (AV.bin Go.BinOp.leq x0 (AV.int 0))) ∧
(((isT (AV.bin Go.BinOp.leq x0 (AV.int 0))) →
  ((AV.flat (AV.int 0)) ∧
  (fSame (AV.int 0) r))) ∧
((isF (AV.bin Go.BinOp.leq x0 (AV.int 0))) →
  (fLoop 321 [(AV.int 0), (AV.int 3037000499)] fun ys321 again321 =>
    ((AV.binOk Go.BinOp.lss (ys321.getD 0 default) (ys321.getD 1 default)) ∧
    ((AV.isBool (AV.bin Go.BinOp.lss (ys321.getD 0 default) (ys321.getD 1 default))) ∧
    (((isT (AV.bin Go.BinOp.lss (ys321.getD 0 default) (ys321.getD 1 default))) →
      ((AV.binOk Go.BinOp.sub (ys321.getD 1 default) (ys321.getD 0 default)) ∧
      ((AV.binOk Go.BinOp.add (AV.bin Go.BinOp.sub (ys321.getD 1 default) (ys321.getD 0 default)) (AV.int 1)) ∧
      ((AV.binOk Go.BinOp.quo (AV.bin Go.BinOp.add (AV.bin Go.BinOp.sub (ys321.getD 1 default) (ys321.getD 0 default)) (AV.int 1)) (AV.int 2)) ∧
      ((AV.binOk Go.BinOp.add (ys321.getD 0 default) (AV.bin Go.BinOp.quo (AV.bin Go.BinOp.add (AV.bin Go.BinOp.sub (ys321.getD 1 default) (ys321.getD 0 default)) (AV.int 1)) (AV.int 2))) ∧
      ((AV.binOk Go.BinOp.mul (AV.bin Go.BinOp.add (ys321.getD 0 default) (AV.bin Go.BinOp.quo (AV.bin Go.BinOp.add (AV.bin Go.BinOp.sub (ys321.getD 1 default) (ys321.getD 0 default)) (AV.int 1)) (AV.int 2))) (AV.bin Go.BinOp.add (ys321.getD 0 default) (AV.bin Go.BinOp.quo (AV.bin Go.BinOp.add (AV.bin Go.BinOp.sub (ys321.getD 1 default) (ys321.getD 0 default)) (AV.int 1)) (AV.int 2)))) ∧
      ((AV.binOk Go.BinOp.leq (AV.bin Go.BinOp.mul (AV.bin Go.BinOp.add (ys321.getD 0 default) (AV.bin Go.BinOp.quo (AV.bin Go.BinOp.add (AV.bin Go.BinOp.sub (ys321.getD 1 default) (ys321.getD 0 default)) (AV.int 1)) (AV.int 2))) (AV.bin Go.BinOp.add (ys321.getD 0 default) (AV.bin Go.BinOp.quo (AV.bin Go.BinOp.add (AV.bin Go.BinOp.sub (ys321.getD 1 default) (ys321.getD 0 default)) (AV.int 1)) (AV.int 2)))) x0) ∧
      ((AV.isBool (AV.bin Go.BinOp.leq (AV.bin Go.BinOp.mul (AV.bin Go.BinOp.add (ys321.getD 0 default) (AV.bin Go.BinOp.quo (AV.bin Go.BinOp.add (AV.bin Go.BinOp.sub (ys321.getD 1 default) (ys321.getD 0 default)) (AV.int 1)) (AV.int 2))) (AV.bin Go.BinOp.add (ys321.getD 0 default) (AV.bin Go.BinOp.quo (AV.bin Go.BinOp.add (AV.bin Go.BinOp.sub (ys321.getD 1 default) (ys321.getD 0 default)) (AV.int 1)) (AV.int 2)))) x0)) ∧
      (((isT (AV.bin Go.BinOp.leq (AV.bin Go.BinOp.mul (AV.bin Go.BinOp.add (ys321.getD 0 default) (AV.bin Go.BinOp.quo (AV.bin Go.BinOp.add (AV.bin Go.BinOp.sub (ys321.getD 1 default) (ys321.getD 0 default)) (AV.int 1)) (AV.int 2))) (AV.bin Go.BinOp.add (ys321.getD 0 default) (AV.bin Go.BinOp.quo (AV.bin Go.BinOp.add (AV.bin Go.BinOp.sub (ys321.getD 1 default) (ys321.getD 0 default)) (AV.int 1)) (AV.int 2)))) x0)) →
        (again321 [(AV.bin Go.BinOp.add (ys321.getD 0 default) (AV.bin Go.BinOp.quo (AV.bin Go.BinOp.add (AV.bin Go.BinOp.sub (ys321.getD 1 default) (ys321.getD 0 default)) (AV.int 1)) (AV.int 2))), (ys321.getD 1 default)])) ∧
      ((isF (AV.bin Go.BinOp.leq (AV.bin Go.BinOp.mul (AV.bin Go.BinOp.add (ys321.getD 0 default) (AV.bin Go.BinOp.quo (AV.bin Go.BinOp.add (AV.bin Go.BinOp.sub (ys321.getD 1 default) (ys321.getD 0 default)) (AV.int 1)) (AV.int 2))) (AV.bin Go.BinOp.add (ys321.getD 0 default) (AV.bin Go.BinOp.quo (AV.bin Go.BinOp.add (AV.bin Go.BinOp.sub (ys321.getD 1 default) (ys321.getD 0 default)) (AV.int 1)) (AV.int 2)))) x0)) →
        ((AV.binOk Go.BinOp.sub (AV.bin Go.BinOp.add (ys321.getD 0 default) (AV.bin Go.BinOp.quo (AV.bin Go.BinOp.add (AV.bin Go.BinOp.sub (ys321.getD 1 default) (ys321.getD 0 default)) (AV.int 1)) (AV.int 2))) (AV.int 1)) ∧
        (again321 [(ys321.getD 0 default), (AV.bin Go.BinOp.sub (AV.bin Go.BinOp.add (ys321.getD 0 default) (AV.bin Go.BinOp.quo (AV.bin Go.BinOp.add (AV.bin Go.BinOp.sub (ys321.getD 1 default) (ys321.getD 0 default)) (AV.int 1)) (AV.int 2))) (AV.int 1))])))))))))))) ∧
    ((isF (AV.bin Go.BinOp.lss (ys321.getD 0 default) (ys321.getD 1 default))) →
      ((AV.flat (ys321.getD 0 default)) ∧
      (fSame (ys321.getD 0 default) r)))))))))))) := by kernel_rfl
theorem dist_form (x0 x1 r : AV) : fnF Tryd.prog Γ ann 3 26 Tryd.f26 (Tryd.f26.body.getD .skip) (.nil) [x0, x1] (.tup [.sc, .sc]) r = (((AV.isAgg x0 2) ∧
((AV.isAgg x1 2) ∧
(∃ r385 : AV, ((Fn Tryd.prog 39 [(AV.agg [(AV.cel x0 0), (AV.cel x0 1)]), (AV.agg [(AV.cel x1 0), (AV.cel x1 1)])] Sh.sc r385) ∧
(∃ r577 : AV, ((Fn Tryd.prog 40 [r385] Sh.sc r577) ∧
((AV.binOk Go.BinOp.mul r577 r577) ∧
((AV.binOk Go.BinOp.lss (AV.bin Go.BinOp.mul r577 r577) r385) ∧
((AV.isBool (AV.bin Go.BinOp.lss (AV.bin Go.BinOp.mul r577 r577) r385)) ∧
(((isT (AV.bin Go.BinOp.lss (AV.bin Go.BinOp.mul r577 r577) r385)) →
  ((AV.binOk Go.BinOp.add r577 (AV.int 1)) ∧
  ((AV.flat r577) ∧
  ((AV.flat (AV.bin Go.BinOp.add r577 (AV.int 1))) ∧
  (fSame (AV.tup [r577, (AV.bin Go.BinOp.add r577 (AV.int 1))]) r))))) ∧
((isF (AV.bin Go.BinOp.lss (AV.bin Go.BinOp.mul r577 r577) r385)) →
  ((AV.flat r577) ∧
  ((AV.flat r577) ∧
  (fSame (AV.tup [r577, r577]) r))))))))))))))) := by kernel_rfl
end DisF
end Go.Proofs.YtdlakpomcafemaaDoor
