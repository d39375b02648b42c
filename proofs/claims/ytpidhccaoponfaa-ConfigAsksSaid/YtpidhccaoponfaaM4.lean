/- Texts of one proof, part 4: plain values, a run over them, contracts of functions. -/
import Derived.Test.YtpidhccaoponfaaM3
import Derived.Test.YtpidhccaoponfaaM1
import Derived.Lib.SmallJoins
import Derived.Deep.Slices
import Derived.Deep.Fields
import Derived.ChangeSame
import Derived.Shelf.SlSortCmp.NoneTotal
import Derived.Test.YtpidhccaoponfaaChecked
import Derived.Shelf.Sort.Plain
import Derived.Shelf.Lays
import Derived.Shelf.LaysM
import Derived.Shelf.RegionOpenPlain
import Derived.WalkKit
import Derived.Deep.RegionLaw
import Derived.Deep.Upon
import Derived.Lib.Walk
import Derived.Lib.SliceRun
/- Walking into a called function's text. -/
namespace Go.Proofs.Ytpidhccaoponfaa
open Go.RowKit
set_option linter.unusedVariables false
set_option linter.unusedSimpArgs false
section
variable {P : Program} {Γ : FuncId → Option Ca} {ann : FuncId → Nat → LoopEx}
theorem inF_fr : ∀ n, InlFr (inF P Γ ann n)
  | 0 => fun f args σ K K' h hK => h.elim
  | n + 1 => fun f args σ K K' h hK => by
    unfold inF at h ⊢
    by_cases hv : (ann f 999999).drop ≠ []
    · rw [if_pos hv] at h ⊢
      exact visF_fr _ _ _ _ _ _ _ h hK
    rw [if_neg hv] at h ⊢
    simp only at h ⊢
    split at h
    · exact h.elim
    · rename_i fn hf
      split at h
      · exact h.elim
      · rename_i c hb
        intro vs
        refine runC_mono (inF_fr n) c _ _ _ (h vs) fun e σ' hk hfb _ _ => ?_
        split at hk
        · rename_i hex
          rw [if_pos hex]
          split at hk
          · rename_i d hd
            split at hk
            · exact hk.elim
            · rename_i hp
              rw [if_neg hp]
              refine hK _ _ hk ?_ rfl
              obtain ⟨⟨p, hp⟩, _, h3⟩ := hfb
              exact ⟨⟨(σ.clk, .dead) :: p ++ [(σ.clk, .sv σ.tm vs)], by simp [hp]⟩, rfl, by have h3' : σ.clk + 64 ≤ σ'.clk := h3; show σ.clk ≤ σ'.clk; omega⟩
          · exact hk.elim
        · exact hk.elim
theorem inF_ok (hm : P.follows .mixedOrders = true) : ∀ n, InlOk P (inF P Γ ann n)
  | 0 => fun base w0 ok0 f args σ K ρ a w cargs hent h _ _ _ => h.elim
  | n + 1 => fun base w0 ok0 f args σ K ρ a w cargs hent h hs hsz hargs => by
    unfold inF at h
    by_cases hv : (ann f 999999).drop ≠ []
    · rw [if_pos hv] at h
      exact visF_ok (inF_ok hm n) (inF_fr n) _ _ f args σ K cargs hent h hs hsz hargs
    rw [if_neg hv] at h
    simp only at h
    split at h
    · exact h.elim
    · rename_i fn hf
      split at h
      · exact h.elim
      · rename_i c hb
        have hs0 := hs
        replace hs : HS base w ok0 σ ρ { tmps := a.tmps, defers := [] } w := HR.fresh hs
        refine calls_marks hf hb ?_
        have hdead : σ.blk σ.clk = .dead := hs.frs σ.clk (fun q => Nat.lt_irrefl _ q)
        have hund : ρ σ.clk = undef := by have := hs.blks σ.clk; rw [hdead] at this; exact this
        let σ1 : DS := ⟨args ++ List.replicate (fn.ntmps - args.length) (DE.c undef), (σ.clk, .sv σ.tm a.tmps) :: σ.bl, σ.clk + 64, σ.orc⟩
        have hb1 : σ1.blk = updB σ.blk [(σ.clk, .sv σ.tm a.tmps)] := blk_app σ [(σ.clk, .sv σ.tm a.tmps)] _ _ _
        have h0 : HS base w ok0 σ1 ρ { tmps := cargs ++ Array.replicate (fn.ntmps - cargs.size) undef, defers := [] } w := by
          show HR base w ok0 (fun n => n < σ.clk + 64) σ1.tm σ1.blk ρ _ w
          rw [hb1]
          refine HR.step hs (fun b => b = σ.clk) (fun b hc => updB_ne _ _ _ hc) (fun b _ => rfl) (fun b t cs _ _ => rfl) (fun b n x hc e => by rw [hc, hdead] at e; cases e)
            (fun n hn => by have : n < σ.clk := hn; show n < σ.clk + 64; omega) (fun b hc => by show b < σ.clk + 64; rw [hc]; omega) (fun b n hc _ hst => by rw [hc, updB_one] at hst; cases hst) (Nat.le_refl _) (fun _ _ _ => rfl)
            (fun b hc hl => by rw [hc, updB_one] at hl; cases hl) (fun b b' hc _ hl => by rw [hc, updB_one] at hl; cases hl) rfl rfl rfl (fun H1 H5 b hc => ?_) (fun H1 t => .inr ?_) (by simp [σ1, hsz]) rfl
          · rw [hc, updB_one]
            exact ⟨hund, hs.size, fun t => H5 _ _ (hs.tms t)⟩
          · by_cases ht : t < args.length
            · have e1 : σ1.tm.getD t .any = args.getD t .any := by
                show (args ++ List.replicate (fn.ntmps - args.length) (DE.c undef)).getD t .any = _
                rw [List.getD_eq_getElem?_getD, List.getElem?_append_left ht, ← List.getD_eq_getElem?_getD]
              have e2 : (cargs ++ Array.replicate (fn.ntmps - cargs.size) undef).getD t undef = cargs.getD t undef := by
                rw [Array.getD_eq_getD_getElem?, Array.getElem?_append, if_pos (by omega), ← Array.getD_eq_getD_getElem?]
              rw [e1]
              show RD _ _ _ _ _ _ ((cargs ++ Array.replicate (fn.ntmps - cargs.size) undef).getD t undef)
              rw [e2]
              refine (hargs t ht).mono H1 (fun _ _ _ => rfl) (fun n hn => by have : n < σ.clk := hn; show n < σ.clk + 64; omega) fun b n hn hst => ?_
              by_cases hc : b = σ.clk
              · rw [hc, updB_one] at hst; cases hst
              · rw [updB_ne _ _ _ hc] at hst; exact ⟨hst, rfl⟩
            · by_cases ht2 : t < fn.ntmps
              · have e1 : σ1.tm.getD t .any = .c undef := by
                  show (args ++ List.replicate (fn.ntmps - args.length) (DE.c undef)).getD t .any = _
                  rw [List.getD_eq_getElem?_getD, List.getElem?_append_right (by omega), List.getElem?_replicate]
                  rw [if_pos (by omega)]; rfl
                have e2 : (cargs ++ Array.replicate (fn.ntmps - cargs.size) undef).getD t undef = undef := by
                  rw [Array.getD_eq_getD_getElem?, Array.getElem?_append, if_neg (by omega), Array.getElem?_replicate]
                  split <;> rfl
                rw [e1]
                show RD _ _ _ _ _ _ ((cargs ++ Array.replicate (fn.ntmps - cargs.size) undef).getD t undef)
                rw [e2]; exact .c _
              · have e1 : σ1.tm.getD t .any = .any := by
                  show (args ++ List.replicate (fn.ntmps - args.length) (DE.c undef)).getD t .any = _
                  rw [List.getD_eq_getElem?_getD, List.getElem?_eq_none (by simp; omega)]; rfl
                rw [e1]; exact .any _
        have hrun := runC_mono (inF_fr n) c σ1 _ (fun e σ' => (if exits e then (match resultD P fn σ' with | some d => if (preOf σ1 σ').contains σ.clk then fStuck "saved slots" else K d { tm := σ.tm, bl := (σ.clk, .dead) :: σ'.bl, clk := σ'.clk, orc := σ'.orc } | none => fStuck "results") else fStuck "exit") ∧ FrB σ1 σ') (h a.tmps) (fun e σ' hk q1 _ _ => ⟨hk, q1⟩)
        refine runC_sound hm (inF_ok hm n) (inF_fr n) c σ1 _ ρ _ w _ hrun h0 fun e σ' ρ' a' w' hk h' => ?_
        obtain ⟨hk, hfb⟩ := hk
        obtain ⟨Ds, hD1, hD2, hD3, h'⟩ := HR.unmark h'
        generalize hwt : turned Ds w' = wt at h'
        split at hk
        · rename_i hex
          split at hk
          · rename_i d hd
            split at hk
            · exact hk.elim
            · rename_i hpre
              obtain ⟨v, hv1, hv2⟩ := resultD_ok h' hd
              obtain ⟨⟨p, hp⟩, _, h3⟩ := hfb
              have h3' : σ.clk + 64 ≤ σ'.clk := h3
              have hsv : σ'.blk σ.clk = .sv σ.tm a.tmps := by
                have hpo : preOf σ1 σ' = p.map (·.1) := by
                  unfold preOf
                  rw [hp, List.length_append, Nat.add_sub_cancel, List.take_left]
                have : σ'.blk = updB σ1.blk p := by
                  obtain ⟨tm, bl, c, oc⟩ := σ'
                  simp only at hp
                  subst hp
                  exact blk_app σ1 p tm c _
                rw [this, updB_of_not (by rw [← hpo]; simpa using hpre), hb1, updB_one]
              have hB := h'.blks σ.clk
              rw [hsv] at hB
              have hfin : (DS.mk σ.tm ((σ.clk, .dead) :: σ'.bl) σ'.clk σ'.orc).blk = updB σ'.blk [(σ.clk, .dead)] := blk_app σ' [(σ.clk, .dead)] _ _ _
              have H4 : ∀ b n, n < σ'.clk → stampOf (updB σ'.blk [(σ.clk, .dead)] b) = some n → stampOf (σ'.blk b) = some n ∧ ρ' b = ρ' b := fun b n _ hst => by
                by_cases hc : b = σ.clk
                · rw [hc, updB_one] at hst; cases hst
                · rw [updB_ne _ _ _ hc] at hst; exact ⟨hst, rfl⟩
              have H1 : ∀ g, okF base ok0 σ'.blk ρ' g → g < wt.heap.size → okF base ok0 (updB σ'.blk [(σ.clk, .dead)]) ρ' g ∧ wt.heap[g]? = wt.heap[g]? := fun g hg _ => ⟨⟨hg.1, fun b hl => by
                by_cases hc : b = σ.clk
                · rw [hc, updB_one] at hl; cases hl
                · rw [updB_ne _ _ _ hc] at hl; exact hg.2 b hl⟩, rfl⟩
              have hend : HS base w0 ok0 ⟨σ.tm, (σ.clk, .dead) :: σ'.bl, σ'.clk, σ'.orc⟩ ρ' a wt := by
                show HR base w0 ok0 (fun n => n < σ'.clk) σ.tm (DS.mk σ.tm ((σ.clk, .dead) :: σ'.bl) σ'.clk σ'.orc).blk ρ' a wt
                rw [hfin]
                refine HR.join (t := a.tmps) hs0 ?_
                refine HR.step h' (fun b => b = σ.clk) (fun b hc => updB_ne _ _ _ hc) (fun b _ => rfl) (fun b t cs _ _ => rfl) (fun b n x hc e => by rw [hc, hsv] at e; cases e)
                  (fun n hn => hn) (fun b hc => by show b < σ'.clk; rw [hc]; omega) (fun b n hc hn hst => H4 b n hn hst) (Nat.le_refl _) (fun _ _ _ => rfl)
                  (fun b hc hl => by rw [hc, updB_one] at hl; cases hl) (fun b b' hc _ hl => by rw [hc, updB_one] at hl; cases hl) rfl rfl rfl (fun _ _ b hc => ?_) (fun _ t => .inr ?_) hs.size rfl
                · rw [hc, updB_one]; exact hB.1
                · exact (hB.2.2 t).mono H1 (fun _ _ _ => rfl) (fun n hn => hn) H4
              have hdv := hv2.mono H1 (fun _ _ _ => rfl) (fun n hn => hn) H4
              rw [← hfin] at hdv
              cases e with
              | normal => exact ⟨Ds, hD1, hD2, hD3, v, by rw [hwt]; exact hv1, v, rfl, d, _, ρ', hk, by rw [hwt]; exact hend, by rw [hwt]; exact hdv⟩
              | ret => exact ⟨Ds, hD1, hD2, hD3, v, by rw [hwt]; exact hv1, v, rfl, d, _, ρ', hk, by rw [hwt]; exact hend, by rw [hwt]; exact hdv⟩
              | exit i => cases hex
              | goto i => cases hex
              | panic i => cases hex
              | outgrown => cases hex
          · exact hk.elim
        · exact hk.elim
/-- **A function's contract out of its run.** -/
theorem fn_run (hm : P.follows .mixedOrders = true) (n : Nat) {f : FuncId} {fn : Func} {c : Code} (hf : P.funcs[f]? = some fn) (hb : fn.body = some c) (hent : Ent P f) {args : List AV} {orc : Orc} {sh : Sh} {r : AV} (h : fnF P Γ ann n f fn c orc args sh r) : Fn P f args sh r :=
  fn_of_run hm (inF_ok hm n) (inF_fr n) hf hb hent h
end
end Go.Proofs.Ytpidhccaoponfaa
/- Plain values, reckoned. -/
namespace Go.Proofs.Ytpidhccaoponfaa
open Go.RowKit
set_option linter.unusedVariables false
section
variable {a b n : Int} {k k' : IntKind} {s t : ByteArray} {p q : Bool} {L M : List (List AV)} {cs vs : List AV} {i j m sz : Nat} {x y z : AV} {v : Value}
@[simp] theorem av_cel : AV.cel (.agg cs) j = cs.getD j default := rfl
@[simp] theorem av_prj : AV.prj (.tup vs) j = vs.getD j default := rfl
@[simp] theorem av_isAgg : AV.isAgg (.agg cs) m ↔ cs.length = m := ⟨fun ⟨_, e, h⟩ => by cases e; exact h, fun h => ⟨_, rfl, h⟩⟩
@[simp] theorem av_isTup : AV.isTup (.tup cs) m ↔ cs.length = m := ⟨fun ⟨_, e, h⟩ => by cases e; exact h, fun h => ⟨_, rfl, h⟩⟩
@[simp] theorem av_hasPart : hasPart (.tup cs) i ↔ i < cs.length := ⟨fun ⟨m, h, hi⟩ => by rw [av_isTup] at h; omega, fun h => ⟨_, av_isTup.2 rfl, h⟩⟩
@[simp] theorem av_isSl : AV.isSl (.sl i L) j ↔ i = j := ⟨fun h => by have h' : AV.sl i L = .sl j L := h; injection h', fun h => by subst h; rfl⟩
@[simp] theorem av_isInt : AV.isInt (.lit (.int k n)) ↔ True := ⟨fun _ => trivial, fun _ => ⟨_, _, rfl⟩⟩
@[simp] theorem av_isI64 : AV.isI64 (.lit (.int .i64 n)) ↔ True := ⟨fun _ => trivial, fun _ => rfl⟩
@[simp] theorem av_isBool : AV.isBool (.lit (.bool p)) ↔ True := ⟨fun _ => trivial, fun _ => rfl⟩
@[simp] theorem av_isStr : AV.isStr (.lit (.string s)) ↔ True := ⟨fun _ => trivial, fun _ => rfl⟩
@[simp] theorem av_isOne_int : AV.isOne (.lit (.int k n)) ↔ True := ⟨fun _ => trivial, fun _ => rfl⟩
@[simp] theorem av_isOne_bool : AV.isOne (.lit (.bool p)) ↔ True := ⟨fun _ => trivial, fun _ => rfl⟩
@[simp] theorem av_isOne_str : AV.isOne (.lit (.string s)) ↔ True := ⟨fun _ => trivial, fun _ => rfl⟩
@[simp] theorem av_isOne_ni : AV.isOne (.lit .nilIface) ↔ True := ⟨fun _ => trivial, fun _ => rfl⟩
@[simp] theorem av_isNI : AV.isNI (.lit .nilIface) ↔ True := ⟨fun _ => trivial, fun _ => rfl⟩
@[simp] theorem av_isOne_sl : AV.isOne (.sl i L) ↔ True := ⟨fun _ => trivial, fun _ => rfl⟩
@[simp] theorem av_len : AV.len (.sl i L) = .lit (.int .i64 (L.length : Nat)) := rfl
@[simp] theorem av_slen : AV.slen (.lit (.string s)) = .lit (.int .i64 (s.size : Nat)) := rfl
@[simp] theorem av_els : AV.els (.sl i L) = L := rfl
@[simp] theorem av_num : AV.num (.lit (.int k n)) = n := rfl
@[simp] theorem av_tru : AV.tru (.lit (.bool p)) = p := rfl
@[simp] theorem av_str : AV.str (.lit (.string s)) = s := rfl
@[simp] theorem av_kind : AV.kind (.lit (.int k n)) = k := rfl
@[simp] theorem av_mk : AV.mk i L = .sl i L := rfl
@[simp] theorem av_app : AV.app i (.sl j L) (.sl m M) = .sl i (L ++ M) := rfl
@[simp] theorem av_inb : AV.inb (.sl i L) (.lit (.int k n)) ↔ 0 ≤ n ∧ n < L.length := ⟨fun h => h.2, fun h => ⟨⟨_, _, rfl⟩, h⟩⟩
@[simp] theorem av_sinb : AV.sinb (.lit (.string s)) (.lit (.int k n)) ↔ 0 ≤ n ∧ n < s.size := ⟨fun h => h.2, fun h => ⟨⟨_, _, rfl⟩, h⟩⟩
@[simp] theorem av_at : AV.at (.sl i L) (.lit (.int k n)) j = gt2 L n.toNat j := rfl
@[simp] theorem av_subOk : AV.subOk (.sl i L) (.lit (.int k a)) (.lit (.int k' b)) ↔ 0 ≤ a ∧ a ≤ b ∧ b ≤ L.length := ⟨fun h => h.2.2, fun h => ⟨⟨_, _, rfl⟩, ⟨_, _, rfl⟩, h⟩⟩
@[simp] theorem av_sub : AV.sub i (.sl j L) (.lit (.int k a)) (.lit (.int k' b)) = .sl i ((L.take b.toNat).drop a.toNat) := rfl
@[simp] theorem av_binOk_int {op : BinOp} : AV.binOk op (.lit (.int k a)) (.lit (.int k' b)) ↔ k = k' ∧ (match op with | .quo | .rem => b ≠ 0 | .shl | .shr => False | _ => True) := Iff.rfl
@[simp] theorem av_add : AV.bin .add (.lit (.int k a)) (.lit (.int k' b)) = .lit (.int k (k.wrap (a + b))) := rfl
@[simp] theorem av_subt : AV.bin .sub (.lit (.int k a)) (.lit (.int k' b)) = .lit (.int k (k.wrap (a - b))) := rfl
@[simp] theorem av_mul : AV.bin .mul (.lit (.int k a)) (.lit (.int k' b)) = .lit (.int k (k.wrap (a * b))) := rfl
@[simp] theorem av_quo : AV.bin .quo (.lit (.int k a)) (.lit (.int k' b)) = .lit (.int k (k.wrap (a.tdiv b))) := rfl
@[simp] theorem av_rem : AV.bin .rem (.lit (.int k a)) (.lit (.int k' b)) = .lit (.int k (a.tmod b)) := rfl
@[simp] theorem av_eql : AV.bin .eql (.lit (.int k a)) (.lit (.int k' b)) = .lit (.bool (a == b)) := rfl
@[simp] theorem av_neq : AV.bin .neq (.lit (.int k a)) (.lit (.int k' b)) = .lit (.bool (a != b)) := rfl
@[simp] theorem av_lss : AV.bin .lss (.lit (.int k a)) (.lit (.int k' b)) = .lit (.bool (decide (a < b))) := rfl
@[simp] theorem av_leq : AV.bin .leq (.lit (.int k a)) (.lit (.int k' b)) = .lit (.bool (decide (a ≤ b))) := rfl
@[simp] theorem av_gtr : AV.bin .gtr (.lit (.int k a)) (.lit (.int k' b)) = .lit (.bool (decide (a > b))) := rfl
@[simp] theorem av_geq : AV.bin .geq (.lit (.int k a)) (.lit (.int k' b)) = .lit (.bool (decide (a ≥ b))) := rfl
@[simp] theorem av_mx : AV.mx (.lit (.int k a)) (.lit (.int k' b)) = .lit (.int k (if b > a then b else a)) := rfl
@[simp] theorem av_mn : AV.mn (.lit (.int k a)) (.lit (.int k' b)) = .lit (.int k (if b < a then b else a)) := rfl
@[simp] theorem av_isT : isT (.lit (.bool p)) ↔ p = true := Iff.rfl
@[simp] theorem av_isF : isF (.lit (.bool p)) ↔ p = false := Iff.rfl
@[simp] theorem av_flat : AV.flat (.lit v) ↔ True := ⟨fun _ => trivial, fun _ => .lit v⟩
@[simp] theorem av_flat_nil : AV.flat (.sl i []) ↔ True := ⟨fun _ => trivial, fun _ => .nil i⟩
@[simp] theorem av_flat_agg : AV.flat (.agg cs) ↔ ∀ x ∈ cs, x.flat := ⟨fun h => by cases h with | agg _ h => exact h, fun h => .agg cs h⟩
@[simp] theorem av_flatS : AV.flatS (.sl i L) ↔ ∀ y ∈ L, ∀ z ∈ y, z.flat := Iff.rfl
@[simp] theorem f_same : fSame x y ↔ x = y := Iff.rfl
@[simp] theorem f_ent {P : Program} {f : FuncId} : fEnt P f ↔ Ent P f := Iff.rfl
@[simp] theorem f_nil {F G : Prop} : fNil (.sl i L) F G ↔ (L = [] → F) ∧ G := ⟨fun h => h.elim (fun q => q.2) (fun q => by cases q.1), fun h => .inl ⟨⟨_, _, rfl⟩, h⟩⟩
@[simp] theorem f_nil_lit {F G : Prop} : fNil (.lit (.slice none 0 0)) F G ↔ F := ⟨fun h => h.elim (fun q => by obtain ⟨_, _, e⟩ := q.1; cases e) (fun q => q.2), fun h => .inr ⟨rfl, h⟩⟩
@[simp] theorem f_allV {p : Prop} : fAllV (fun _ => p) ↔ p := ⟨fun h => h #[], fun h _ => h⟩
/-- A loop, by what it carries. -/
theorem loop_of {τ : Type} (enc : τ → List AV) (Inv : τ → Prop) (μ : τ → Nat) {xs : List AV} {body : List AV → (List AV → Prop) → Prop} (x0 : τ) (h0 : xs = enc x0) (hI : Inv x0) (hb : ∀ x, Inv x → body (enc x) fun zs => ∃ m', m' < μ x ∧ ∃ y, zs = enc y ∧ Inv y ∧ μ y = m') : fLoop i xs body := by
  subst h0
  refine ⟨fun m ys => ∃ y, ys = enc y ∧ Inv y ∧ μ y = m, μ x0, ⟨x0, rfl, hI, rfl⟩, ?_⟩
  rintro m ys _ ⟨y, rfl, hy, rfl⟩
  exact hb y hy
theorem wrap64 (h1 : -9223372036854775808 ≤ a) (h2 : a ≤ 9223372036854775807) : IntKind.i64.wrap a = a := by
  simp [IntKind.wrap, IntKind.bits, IntKind.signed]; omega
end
theorem mixed : Try.prog.follows .mixedOrders = true := by kernel_rfl
end Go.Proofs.Ytpidhccaoponfaa
/- What every law's proof closes with. -/
namespace Go.Proofs.Ytpidhccaoponfaa
open Go.ChangeShapes Go.WideShapes Go.ChangeAt Go.RowKit

theorem own : ownKnob Try.prog.godebug = none := by kernel_rfl
theorem laidOut : laidOutB Try.prog = true := by kernel_rfl


theorem law_end {H : Type} {enc : TypeId × Value → H} {f : Func} {s : ChangeSpec} {W W' : World} {args : Array Value} {ds gs : List (DataW H)} {before : List MemPlace} {e : Ending}
    (hts : (f.params.toList.all fun t => Try.prog.readableRec t && decide (t < Try.prog.types.size)) = true) (hres : f.resultTypes = #[4]) (hv : s.vars = [])
    (hW : DataW.Whole enc Try.prog f.params.toList s.vars false W args.toList ds gs before) (h1 : (s.fn H (ds ++ gs)).results = [.lit (.bool true)]) (h2 : (s.fn H (ds ++ gs)).args = ds) (h3 : (s.fn H (ds ++ gs)).vars = [])
    (hr : Ret (.bool true) W e W') : ∃ v, e = .returned v ∧ s.post enc Try.prog f false true false false W args v W' := by
  refine ⟨_, hr.1, law_post laidOut (fun t ht => ?_) hres Try.underlying4 hv hW h1 h2 h3 hr.below⟩
  have := List.all_eq_true.1 hts t ht
  simp only [Bool.and_eq_true, decide_eq_true_eq] at this
  exact this
end Go.Proofs.Ytpidhccaoponfaa
/- Arguments, opened: whatever their types, as plain values; and a law's last step. -/
namespace Go.Proofs.Ytpidhccaoponfaa
open Go.ChangeShapes Go.WideShapes Go.ChangeAt Go.RowKit Go.Deep
set_option linter.unusedVariables false
/-! ### the cells of a type -/
def flatFs (P : Program) (fl : TypeId → Option (List TypeId)) : Nat → List Field → Option (List TypeId)
  | _, [] => some []
  | o, f :: fs => if f.offset = o then (match fl f.type, flatFs P fl (o + P.cellsOf f.type) fs with
      | some a, some b => if a.length = P.cellsOf f.type then some (a ++ b) else none
      | _, _ => none) else none
def flatTy (P : Program) : Nat → TypeId → Option (List TypeId)
  | 0, _ => none
  | d + 1, t => match P.underlying t with
    | some (.int _) => some [t]
    | some .string => some [t]
    | some .bool => some [t]
    | some (.slice _) => some [t]
    | some (.struct fs) => match flatFs P (flatTy P d) 0 fs.toList with
        | some l => if l.length = P.cellsOf t then some l else none
        | none => none
    | some (.array n e) => match flatTy P d e with
        | some l => if l.length = P.cellsOf e ∧ n * l.length = P.cellsOf t then some (List.replicate n l).flatten else none
        | none => none
    | _ => none
def CellOk (P : Program) : Nat → TypeId → AV → Prop
  | 0, _, _ => False
  | d + 1, u, x => match P.underlying u with
    | some (.int k) => ∃ n, x = .lit (.int k n) ∧ (Lit.int k n).wf = true
    | some .string => ∃ s : ByteArray, x = .string s ∧ s.size ≤ maxLen
    | some .bool => ∃ b, x = .bool b
    | some (.slice e) => ∃ (L : List (List AV)) (tys : List TypeId), x = .sl (P.cellsOf e) L ∧ L.length ≤ maxLen ∧ flatTy P 8 e = some tys ∧ ∀ y ∈ L, y.length = tys.length ∧ ∀ i u', tys[i]? = some u' → CellOk P d u' (y.getD i default)
    | _ => False
def cellB (P : Program) : Nat → TypeId → Bool
  | 0, _ => false
  | d + 1, u => match P.underlying u with
    | some (.int _) => true
    | some .string => true
    | some .bool => true
    | some (.slice e) => match flatTy P 8 e with
      | some tys => decide (tys.length = P.cellsOf e) && decide (0 < P.cellsOf e) && tys.all (cellB P d)
      | none => false
    | _ => false
section
variable {H : Type} {enc : TypeId × Value → H} {P : Program} {W : World}
theorem fields_of {t : TypeId} {fs : Array Field} {fuel : Nat} {cs : List Value} {x : DataW H × List MemPlace}
    (ht : P.underlying t = some (.struct fs)) (h : DataW.trod enc P W 0 (fun _ => true) true fuel t cs = some x) :
    cs.length = P.cellsOf t ∧ ∃ m, ∀ f ∈ fs.toList, ∃ y, DataW.trod enc P W 0 (fun _ => true) true m f.type ((cs.drop f.offset).take (P.cellsOf f.type)) = some y := by
  obtain ⟨ys, m, _, _, hl, hyl, hf⟩ := DataW.trod_struct ht h
  refine ⟨hl, m, fun f hm => ?_⟩
  obtain ⟨j, hj, e⟩ := List.getElem_of_mem hm
  have hj' : fs[j]? = some f := by rw [← Array.getElem?_toList, List.getElem?_eq_getElem hj, e]
  have hjl : j < ys.length := by rw [hyl]; simpa using hj
  exact ⟨_, (hf j f hj').trans (List.getElem?_eq_getElem hjl)⟩
theorem flatten_get {l : List TypeId} {u : TypeId} : ∀ (n i : Nat), ((List.replicate n l).flatten)[i]? = some u → ∃ k j, k < n ∧ j < l.length ∧ i = k * l.length + j ∧ l[j]? = some u
  | 0, i, h => by simp at h
  | n + 1, i, h => by
    rw [List.replicate_succ, List.flatten_cons, List.getElem?_append] at h
    split at h
    · rename_i hi; exact ⟨0, i, by omega, hi, by omega, h⟩
    · obtain ⟨k, j, hk, hj, e, hl⟩ := flatten_get n _ h
      exact ⟨k + 1, j, by omega, hj, by rw [Nat.add_mul]; omega, hl⟩
theorem seg_at {cs : List Value} {o n i : Nat} {v : Value} (h : ((cs.drop o).take n)[i]? = some v) : cs[o + i]? = some v := by
  rw [List.getElem?_take] at h
  split at h
  · rwa [List.getElem?_drop] at h
  · cases h
theorem flatten_len {l : List TypeId} : ∀ n, ((List.replicate n l).flatten).length = n * l.length
  | 0 => by simp
  | n + 1 => by simp
theorem trod_flat : ∀ (d : Nat) (t : TypeId) (tys : List TypeId), flatTy P d t = some tys → ∀ (fuel : Nat) (vs : List Value) (x : DataW H × List MemPlace), DataW.trod enc P W 0 (fun _ => true) true fuel t vs = some x →
    vs.length = tys.length ∧ ∀ (i : Nat) (u : TypeId), tys[i]? = some u → ∃ v m y, vs[i]? = some v ∧ DataW.trod enc P W 0 (fun _ => true) true m u [v] = some y
  | 0, t, tys, h, _, _, _, _ => by cases h
  | d + 1, t, tys, h, fuel, vs, x, hx => by
    simp only [flatTy] at h
    have one : ∀ v, vs = [v] → some [t] = some tys → vs.length = tys.length ∧ ∀ (i : Nat) (u : TypeId), tys[i]? = some u → ∃ v m y, vs[i]? = some v ∧ DataW.trod enc P W 0 (fun _ => true) true m u [v] = some y := by
      rintro v rfl e
      injection e with e; subst e
      refine ⟨rfl, fun i u hi => ?_⟩
      cases i with
      | zero => simp at hi; subst hi; exact ⟨v, fuel, x, rfl, hx⟩
      | succ i => simp at hi
    split at h
    · rename_i k hu; obtain ⟨n, e, _⟩ := DataW.trod_int hu hx; exact one _ e h
    · rename_i hu; obtain ⟨n, e, _⟩ := DataW.trod_string hu hx; exact one _ e h
    · rename_i hu; obtain ⟨n, e, _⟩ := DataW.trod_bool hu hx; exact one _ e h
    · rename_i e hu
      rcases open_slice hu hx with ⟨e, _⟩ | ⟨a, len, cap, m, fu, D, Pl, e, _⟩
      · exact one _ e h
      · exact one _ e h
    · rename_i fs hu
      split at h
      · rename_i l hl
        split at h
        · rename_i hlen
          injection h with h; subst h
          obtain ⟨hvl, m, hf⟩ := fields_of hu hx
          refine ⟨by omega, ?_⟩
          clear hlen hvl hx
          have key : ∀ (fs : List Field) (o : Nat) (l : List TypeId), flatFs P (flatTy P d) o fs = some l → (∀ f ∈ fs, ∃ y, DataW.trod enc P W 0 (fun _ => true) true m f.type ((vs.drop f.offset).take (P.cellsOf f.type)) = some y) →
              ∀ (i : Nat) (u : TypeId), l[i]? = some u → ∃ v m y, vs[o + i]? = some v ∧ DataW.trod enc P W 0 (fun _ => true) true m u [v] = some y := by
            intro fs
            induction fs with
            | nil => intro o l hl _ i u hi; simp only [flatFs, Option.some.injEq] at hl; subst hl; simp at hi
            | cons f fs ih =>
              intro o l hl hf i u hi
              simp only [flatFs] at hl
              split at hl
              · rename_i ho
                split at hl
                · rename_i a b ha hb
                  split at hl
                  · rename_i hal
                    injection hl with hl; subst hl
                    rw [List.getElem?_append] at hi
                    split at hi
                    · obtain ⟨y, hy⟩ := hf f (by simp)
                      obtain ⟨_, hg⟩ := trod_flat d f.type a ha m _ _ hy
                      obtain ⟨v, m', y', hv, hy'⟩ := hg i u hi
                      exact ⟨v, m', y', ho ▸ seg_at hv, hy'⟩
                    · obtain ⟨v, m', y', hv, hy'⟩ := ih _ _ hb (fun f hf' => hf f (by simp [hf'])) _ _ hi
                      refine ⟨v, m', y', ?_, hy'⟩
                      rw [← hv]; congr 1; omega
                  · cases hl
                · cases hl
              · cases hl
          intro i u hi
          have := key fs.toList 0 l hl hf i u hi
          simpa using this
        · cases h
      · cases h
    · rename_i n e hu
      split at h
      · rename_i l hl
        split at h
        · rename_i hlen
          injection h with h; subst h
          obtain ⟨xs, m, _, _, hvl, hxl, hf⟩ := DataW.trod_array hu hx
          refine ⟨by rw [hvl, flatten_len]; omega, fun i u hi => ?_⟩
          obtain ⟨k, j, hk, hj, rfl, hu'⟩ := flatten_get n i hi
          have h1 := hf k hk
          rw [List.getElem?_eq_getElem (by omega)] at h1
          obtain ⟨_, hg⟩ := trod_flat d e l hl m _ _ h1
          obtain ⟨v, m', y', hv, hy'⟩ := hg j u hu'
          exact ⟨v, m', y', by rw [hlen.1]; exact seg_at hv, hy'⟩
        · cases h
      · cases h
    · cases h
def okAll (W : World) (g : Nat) : Prop := g < W.heap.size
theorem add_none' (b off : Nat) (k : Nat) : (⟨b, off, none⟩ : Addr).add k = ⟨b, off + k, none⟩ := by simp [Addr.add]
theorem cell_open : ∀ (d : Nat) (u : TypeId), cellB P d u = true → ∀ (m : Nat) (v : Value) (y : DataW H × List MemPlace), DataW.trod enc P W 0 (fun _ => true) true m u [v] = some y →
    v.oneCell' = true ∧ ∃ x, CellOk P d u x ∧ RV W (okAll W) x v
  | 0, u, h, _, _, _, _ => by cases h
  | d + 1, u, h, m, v, y, hy => by
    simp only [cellB] at h
    simp only [CellOk]
    split at h
    · rename_i k hu
      obtain ⟨n, e, _, hw⟩ := DataW.trod_int hu hy
      simp only [List.cons.injEq, and_true] at e
      subst e
      exact ⟨rfl, _, ⟨n, rfl, hw⟩, .lit _⟩
    · rename_i hu
      obtain ⟨n, e, _, hw⟩ := DataW.trod_string hu hy
      simp only [List.cons.injEq, and_true] at e
      subst e
      exact ⟨rfl, _, ⟨n, rfl, hw⟩, .lit _⟩
    · rename_i hu
      obtain ⟨n, e, _⟩ := DataW.trod_bool hu hy
      simp only [List.cons.injEq, and_true] at e
      subst e
      exact ⟨rfl, _, ⟨n, rfl⟩, .lit _⟩
    · rename_i e hu
      split at h
      · rename_i tys htys
        simp only [Bool.and_eq_true, decide_eq_true_eq, List.all_eq_true] at h
        obtain ⟨⟨hl, hpos⟩, hall⟩ := h
        rcases open_slice hu hy with ⟨ev, _⟩ | ⟨a, len, cap, m', fu, D, Pl, ev, hb, hlc, hcm, hmm, hx, hi⟩
        · simp only [List.cons.injEq, and_true] at ev
          subst ev
          exact ⟨rfl, _, ⟨[], tys, rfl, by unfold maxLen; simp, htys, fun y hy => by simp at hy⟩, rv_nil _ _⟩
        · simp only [List.cons.injEq, and_true] at ev
          subst ev
          simp only [if_true] at hmm
          have key : ∀ i, ∃ (Y : List AV) (us : Nat → Value), i < len → (Y.length = tys.length ∧ (∀ j u', tys[j]? = some u' → CellOk P d u' (Y.getD j default)) ∧ ∀ j, j < P.cellsOf e → W.cell? (a.add (i * P.cellsOf e + j)) = some (us j) ∧ (us j).oneCell' = true ∧ RV W (okAll W) (Y.getD j default) (us j)) := by
            intro i
            by_cases hlt : i < len
            · obtain ⟨cs', hc, ht'⟩ := hi i (by omega)
              obtain ⟨_, hcl, hat⟩ := World.cells?_some hc
              obtain ⟨q1, q2⟩ := trod_flat 8 e tys htys fu cs' _ ht'
              have step : ∀ j, ∃ (X : AV) (uv : Value), j < tys.length → ((∀ u', tys[j]? = some u' → CellOk P d u' X) ∧ cs'[j]? = some uv ∧ uv.oneCell' = true ∧ RV W (okAll W) X uv) := by
                intro j
                by_cases hj : j < tys.length
                · obtain ⟨v, m2, y2, hv, hy2⟩ := q2 j _ (List.getElem?_eq_getElem hj)
                  obtain ⟨o1, X, hX, hR⟩ := cell_open d tys[j] (hall _ (List.getElem_mem hj)) m2 v y2 hy2
                  exact ⟨X, v, fun _ => ⟨fun u' hu' => by rw [List.getElem?_eq_getElem hj] at hu'; injection hu' with hu'; subst hu'; exact hX, hv, o1, hR⟩⟩
                · exact ⟨default, undef, fun h => absurd h hj⟩
              obtain ⟨fx, step⟩ := Classical.skolem.1 step
              obtain ⟨fv, step⟩ := Classical.skolem.1 step
              refine ⟨(List.range tys.length).map fx, fv, fun _ => ⟨by simp, fun j u' hj => ?_, fun j hj => ?_⟩⟩
              · have hjl : j < tys.length := (List.getElem?_eq_some_iff.1 hj).1
                have := (step j hjl).1 u' hj
                simpa [hjl] using this
              · have hjl : j < tys.length := by omega
                obtain ⟨_, s2, s3, s4⟩ := step j hjl
                refine ⟨?_, s3, by simpa [hjl] using s4⟩
                rw [← Go.Deep.add_add, hat j hj, s2]
            · exact ⟨[], fun _ => undef, fun h => absurd h hlt⟩
          obtain ⟨Y, key⟩ := Classical.skolem.1 key
          obtain ⟨us, key⟩ := Classical.skolem.1 key
          refine ⟨rfl, .sl (P.cellsOf e) ((List.range len).map Y), ⟨_, tys, rfl, by simp; omega, htys, fun y hy => ?_⟩, ?_⟩
          · obtain ⟨i, hi', rfl⟩ := List.mem_map.1 hy
            have := key i (by simpa using hi')
            exact ⟨this.1, this.2.1⟩
          · obtain ⟨b, off, spot⟩ := a
            refine .sl _ _ _ len cap us (by simp) hlc hcm (fun x hx' => ?_) (fun h0 => ?_) (fun i j hi' hj => ((key i hi').2.2 j hj).2.1) (fun i j hi' hj => ?_)
            · obtain ⟨i, hi', rfl⟩ := List.mem_map.1 hx'
              have := key i (by simpa using hi')
              omega
            · have c0 := ((key 0 h0).2.2 0 hpos).1
              have hspot : spot = none := by simpa [Addr.add] using World.cell?_spot c0
              subst hspot
              have hlt : b < W.heap.size := by
                rw [add_none'] at c0
                exact block_lt_of_cell c0
              refine ⟨b, off, rfl, hlt, hlt, fun i j hi' hj => ?_⟩
              have := ((key i hi').2.2 j hj).1
              rw [add_none'] at this
              rw [← this]
              congr 2
              omega
            · have := ((key i hi').2.2 j hj).2.2
              simpa [gt2, hi'] using this
      · cases h
    · cases h
/-- What an argument of type t may be. -/
def ArgOk (P : Program) (t : TypeId) (x : AV) : Prop :=
  match isAggT P t with
  | true => ∃ (cs : List AV) (tys : List TypeId), x = .agg cs ∧ flatTy P 8 t = some tys ∧ cs.length = tys.length ∧ ∀ i u, tys[i]? = some u → CellOk P 8 u (cs.getD i default)
  | false => CellOk P 8 t x
def argB (P : Program) (t : TypeId) : Bool :=
  match isAggT P t with
  | true => match flatTy P 8 t with
    | some tys => tys.all (cellB P 8)
    | none => false
  | false => cellB P 8 t
theorem arg_open {t : TypeId} {v : Value} {base : Nat} {dd : DataW H} {p : List MemPlace} (hb : argB P t = true) (hv : Value.okWide P W .any base t v) (h : DataW.Trod enc P W 0 (fun _ => true) true t v dd p) : ∃ x, ArgOk P t x ∧ RV W (okAll W) x v := by
  obtain ⟨fuel, hf⟩ := h
  unfold argB at hb
  unfold ArgOk
  split at hb
  · rename_i ha
    split at hb
    · rename_i tys htys
      have hagg : ∃ cs, v = .agg cs := by
        unfold isAggT at ha
        split at ha
        · rename_i hu; simp only [Value.okWide, hu] at hv; obtain ⟨cs, e, _⟩ := hv; exact ⟨cs, e⟩
        · rename_i hu; simp only [Value.okWide, hu] at hv; obtain ⟨cs, e, _⟩ := hv; exact ⟨cs, e⟩
        · cases ha
      obtain ⟨vs, rfl⟩ := hagg
      obtain ⟨q1, q2⟩ := trod_flat 8 t tys htys fuel _ _ hf
      have q1 : vs.size = tys.length := by simpa [Value.cells] using q1
      have step : ∀ j, ∃ (X : AV), j < tys.length → ((∀ u', tys[j]? = some u' → CellOk P 8 u' X) ∧ (vs.getD j undef).oneCell' = true ∧ RV W (okAll W) X (vs.getD j undef)) := by
        intro j
        by_cases hj : j < tys.length
        · obtain ⟨v, m2, y2, hv, hy2⟩ := q2 j _ (List.getElem?_eq_getElem hj)
          obtain ⟨o1, X, hX, hR⟩ := cell_open 8 tys[j] (List.all_eq_true.1 hb _ (List.getElem_mem hj)) m2 v y2 hy2
          have e : vs.getD j undef = v := by
            have hv' : vs[j]? = some v := by simpa [Value.cells] using hv
            rw [Array.getD_eq_getD_getElem?, hv']; rfl
          rw [e]
          exact ⟨X, fun _ => ⟨fun u' hu' => by rw [List.getElem?_eq_getElem hj] at hu'; injection hu' with hu'; subst hu'; exact hX, o1, hR⟩⟩
        · exact ⟨default, fun h => absurd h hj⟩
      obtain ⟨fx, step⟩ := Classical.skolem.1 step
      refine ⟨.agg ((List.range tys.length).map fx), ⟨_, tys, rfl, htys, by simp, fun j u' hj => ?_⟩, ?_⟩
      · have hjl : j < tys.length := (List.getElem?_eq_some_iff.1 hj).1
        have := (step j hjl).1 u' hj
        simpa [hjl] using this
      · refine .agg _ _ (by simp [q1]) (fun i hi => ?_) (fun i hi => ?_)
        · exact (step i (by simpa using hi)).2.1
        · have hi' : i < tys.length := by simpa using hi
          have := (step i hi').2.2
          simpa [hi'] using this
    · cases hb
  · rename_i ha
    have h1 : v.cells.toList = [v] := by
      cases v with
      | agg cs =>
        exfalso
        simp only [cellB] at hb
        split at hb
        · rename_i hu; obtain ⟨_, e⟩ := okWide_int hu hv; cases e
        · rename_i hu; obtain ⟨_, e⟩ := okWide_string hu hv; cases e
        · rename_i hu; obtain ⟨_, e⟩ := okWide_bool hu hv; cases e
        · rename_i hu; obtain ⟨_, _, _, e⟩ := okWide_slice hu hv; cases e
        · cases hb
      | _ => rfl
    rw [h1] at hf
    exact (cell_open 8 t hb fuel v _ hf).2
theorem args_open {base : Nat} : ∀ (ts : List TypeId) (vs : List Value) (ds : List (DataW H)) (p : List MemPlace), DataW.TrodAll enc P W 0 (fun _ => true) true ts vs ds p →
    (∀ (j : Nat) t v, ts[j]? = some t → vs[j]? = some v → Value.okWide P W .any base t v) → ts.all (argB P) = true →
    ∃ xs : List AV, xs.length = ts.length ∧ vs.length = ts.length ∧ ∀ i, i < ts.length → ArgOk P (ts.getD i 0) (xs.getD i default) ∧ RV W (okAll W) (xs.getD i default) (vs.getD i undef)
  | [], vs, ds, p, h, _, _ => by
    obtain ⟨rfl, _, _⟩ := trodAll_nil h
    exact ⟨[], rfl, rfl, fun i hi => by simp at hi⟩
  | t :: ts, vs, ds, p, h, hv, hb => by
    obtain ⟨v, vs', d, ds', p', q, rfl, rfl, rfl, h1, h2⟩ := trodAll_cons h
    rw [List.all_cons, Bool.and_eq_true] at hb
    obtain ⟨x, hx, hr⟩ := arg_open hb.1 (hv 0 t v rfl rfl) h1
    obtain ⟨xs, l1, l2, hxs⟩ := args_open ts vs' ds' q h2 (fun j t v h3 h4 => hv (j + 1) t v (by simpa using h3) (by simpa using h4)) hb.2
    refine ⟨x :: xs, by simp [l1], by simp [l2], fun i hi => ?_⟩
    cases i with
    | zero => exact ⟨hx, hr⟩
    | succ i => simpa using hxs i (by simpa using hi)
/-- **A law's walk**: the function returns true at all plain values of its parameters' types. -/
theorem law_calls {f : FuncId} {F : Func} {args : Array Value} {ds : List (DataW H)} {p : List MemPlace} {base : Nat} (hb : F.params.toList.all (argB P) = true)
    (hfn : ∀ xs : List AV, xs.length = F.params.toList.length → (∀ i, i < F.params.toList.length → ArgOk P (F.params.toList.getD i 0) (xs.getD i default)) → Fn P f xs .sc (.bool true))
    (hval : ∀ (j : Nat) t v, F.params[j]? = some t → args[j]? = some v → Value.okWide P W .any base t v)
    (hA : DataW.TrodAll enc P W 0 (fun _ => true) true F.params.toList args.toList ds p) (hgl : Gl W.heap.size W (okAll W) := by (exact ⟨by (intro p hp; simp [globL] at hp), by (intro g hg; simp [globI] at hg)⟩)) : Calls P f args W (Ret (.bool true) W) := by
  obtain ⟨xs, l1, l2, hxs⟩ := args_open F.params.toList args.toList ds p hA (fun j t v h1 h2 => hval j t v (by simpa using h1) (by simpa using h2)) hb
  refine ((hfn xs l1 fun i hi => (hxs i hi).1).2 W (okAll W) args (fun g hg => hg) hgl (by rw [l1, ← l2]; simp) fun i hi => ?_).mono ?_
  · have := (hxs i (by omega)).2
    rwa [show args.getD i undef = args.toList.getD i undef by simp [List.getD_eq_getElem?_getD, Array.getD_eq_getD_getElem?]]
  · rintro e W' ⟨v, rfl, hbel, hr, _⟩
    have hr' : RV W' noBlock (.bool true) v := hr
    exact ret_mk (RV.lit_iff.1 hr') hbel
/-! ### what is known of an opened value -/
theorem cell_int {d : Nat} {u : TypeId} {k : IntKind} {x : AV} (hu : P.underlying u = some (.int k)) (h : CellOk P (d + 1) u x) : ∃ n, x = .lit (.int k n) ∧ (Lit.int k n).wf = true := by
  simpa only [CellOk, hu] using h
theorem cell_str {d : Nat} {u : TypeId} {x : AV} (hu : P.underlying u = some .string) (h : CellOk P (d + 1) u x) : ∃ s : ByteArray, x = .string s ∧ s.size ≤ maxLen := by
  simpa only [CellOk, hu] using h
theorem cell_bool {d : Nat} {u : TypeId} {x : AV} (hu : P.underlying u = some .bool) (h : CellOk P (d + 1) u x) : ∃ b, x = .bool b := by
  simpa only [CellOk, hu] using h
theorem cell_sl {d : Nat} {u e : TypeId} {x : AV} {tys : List TypeId} {s : Nat} (hu : P.underlying u = some (.slice e)) (ht : flatTy P 8 e = some tys) (hs : P.cellsOf e = s) (h : CellOk P (d + 1) u x) :
    ∃ L : List (List AV), x = .sl s L ∧ L.length ≤ maxLen ∧ ∀ y ∈ L, y.length = tys.length ∧ ∀ i u', tys[i]? = some u' → CellOk P d u' (y.getD i default) := by
  simp only [CellOk, hu] at h
  obtain ⟨L, tys', e1, h1, h2, h3⟩ := h
  rw [ht] at h2
  injection h2 with h2
  subst h2 hs
  exact ⟨L, e1, h1, h3⟩
theorem arg_cell {t : TypeId} {x : AV} (hi : isAggT P t = false) (h : ArgOk P t x) : CellOk P 8 t x := by
  unfold ArgOk at h; rwa [hi] at h
theorem arg_agg {t : TypeId} {x : AV} {tys : List TypeId} (hi : isAggT P t = true) (ht : flatTy P 8 t = some tys) (h : ArgOk P t x) : ∃ cs : List AV, x = .agg cs ∧ cs.length = tys.length ∧ ∀ i u, tys[i]? = some u → CellOk P 8 u (cs.getD i default) := by
  unfold ArgOk at h; rw [hi] at h
  obtain ⟨cs, tys', e1, h2, h3, h4⟩ := h
  rw [ht] at h2
  injection h2 with h2
  subst h2
  exact ⟨cs, e1, h3, h4⟩
theorem list_dec {α : Type} {encA : α → List AV} {Q : α → Prop} : ∀ {L : List (List AV)}, (∀ y ∈ L, ∃ a, y = encA a ∧ Q a) → ∃ l : List α, L = l.map encA ∧ ∀ a ∈ l, Q a
  | [], _ => ⟨[], rfl, fun a ha => by simp at ha⟩
  | y :: L, h => by
    obtain ⟨a, e, hq⟩ := h y (by simp)
    obtain ⟨l, e2, hl⟩ := list_dec (L := L) fun y hy => h y (by simp [hy])
    exact ⟨a :: l, by rw [e, e2]; rfl, fun b hb => by exact (List.mem_cons.1 hb).elim (fun e => e ▸ hq) (fun hb => hl b hb)⟩
theorem lst1 {α : Type} {l : List α} (h : l.length = 1) : ∃ a, l = [a] := by match l, h with | [a], _ => exact ⟨a, rfl⟩
theorem lst2 {α : Type} {l : List α} (h : l.length = 2) : ∃ a b, l = [a, b] := by match l, h with | [a, b], _ => exact ⟨a, b, rfl⟩
theorem lst3 {α : Type} {l : List α} (h : l.length = 3) : ∃ a b c, l = [a, b, c] := by match l, h with | [a, b, c], _ => exact ⟨a, b, c, rfl⟩
theorem lst4 {α : Type} {l : List α} (h : l.length = 4) : ∃ a b c d, l = [a, b, c, d] := by match l, h with | [a, b, c, d], _ => exact ⟨a, b, c, d, rfl⟩
theorem lst5 {α : Type} {l : List α} (h : l.length = 5) : ∃ a b c d e, l = [a, b, c, d, e] := by match l, h with | [a, b, c, d, e], _ => exact ⟨a, b, c, d, e, rfl⟩
theorem lst6 {α : Type} {l : List α} (h : l.length = 6) : ∃ a b c d e f, l = [a, b, c, d, e, f] := by match l, h with | [a, b, c, d, e, f], _ => exact ⟨a, b, c, d, e, f, rfl⟩
end
end Go.Proofs.Ytpidhccaoponfaa
/- Lists as plain values; loops over a list. -/
namespace Go.Proofs.Ytpidhccaoponfaa
open Go.RowKit
set_option linter.unusedVariables false
/-- A slice whose elements are those of a list, each by its cells. -/
def lst {α : Type} (s : Nat) (enc : α → List AV) (l : List α) : AV := .sl s (l.map enc)
section
variable {α : Type} {s i j m : Nat} {enc : α → List AV} {l l' : List α} {k k' : IntKind} {a b n : Int} {x : α} {y z : AV} {F G : Prop}
@[simp] theorem lst_els : AV.els (lst s enc l) = l.map enc := rfl
@[simp] theorem lst_len : AV.len (lst s enc l) = .lit (.int .i64 (l.length : Nat)) := by simp [lst]
@[simp] theorem lst_isSl : AV.isSl (lst s enc l) j ↔ s = j := by simp [lst]
@[simp] theorem lst_isOne : AV.isOne (lst s enc l) ↔ True := by simp [lst]
@[simp] theorem lst_inb : AV.inb (lst s enc l) (.lit (.int k n)) ↔ 0 ≤ n ∧ n < l.length := by simp [lst]
@[simp] theorem lst_subOk : AV.subOk (lst s enc l) (.lit (.int k a)) (.lit (.int k' b)) ↔ 0 ≤ a ∧ a ≤ b ∧ b ≤ l.length := by simp [lst]
@[simp] theorem lst_sub : AV.sub i (lst i enc l) (.lit (.int k a)) (.lit (.int k' b)) = lst i enc ((l.take b.toNat).drop a.toNat) := by simp [lst, List.map_drop, List.map_take]
@[simp] theorem lst_app : AV.app i (lst j enc l) (lst m enc l') = lst i enc (l ++ l') := by simp [lst]
theorem lst_app_sl {M : List (List AV)} : AV.app i (lst j enc l) (.sl m M) = .sl i (l.map enc ++ M) := rfl
@[simp] theorem lst_nil : lst s enc [] = .sl s [] := rfl
@[simp] theorem lst_fnil : fNil (lst s enc l) F G ↔ (l = [] → F) ∧ G := by unfold lst; simp
theorem lst_at {n : Nat} (h : l[n]? = some x) : AV.at (lst s enc l) (.lit (.int k (n : Nat))) j = (enc x).getD j default := by
  simp [lst, gt2, List.getD_eq_getElem?_getD, h]
theorem lst_atAgg {n : Nat} (h : l[n]? = some x) : AV.atAgg (lst s enc l) (.lit (.int k (n : Nat))) j m = .agg (((enc x).drop j).take m) := by
  simp [lst, AV.atAgg, List.getD_eq_getElem?_getD, h]
theorem lst_atI (hn : 0 ≤ n) (h : l[n.toNat]? = some x) : AV.at (lst s enc l) (.lit (.int k n)) j = (enc x).getD j default := by
  simp [lst, gt2, List.getD_eq_getElem?_getD, h]
theorem lst_atAggI (hn : 0 ≤ n) (h : l[n.toNat]? = some x) : AV.atAgg (lst s enc l) (.lit (.int k n)) j m = .agg (((enc x).drop j).take m) := by
  simp [lst, AV.atAgg, List.getD_eq_getElem?_getD, h]
theorem lst_flatS (h : ∀ x ∈ l, ∀ z ∈ enc x, z.flat) : (lst s enc l).flatS := by
  intro y hy z hz
  simp only [lst_els, List.mem_map] at hy
  obtain ⟨x, hx, rfl⟩ := hy
  exact h x hx z hz
theorem lst_setEl {n : Nat} {x' : α} {cs : List AV} (h : l[n]? = some x) (he : (enc x).take j ++ cs ++ (enc x).drop (j + cs.length) = enc x') : AV.setEl (lst s enc l) (.lit (.int k (n : Nat))) j cs = lst s enc (l.set n x') := by
  simp only [lst, AV.setEl, av_num, Int.toNat_natCast]
  congr 1
  rw [List.map_set, ← he]
  simp [List.getD_eq_getElem?_getD, h]
theorem lst_snoc : AV.sl s (l.map enc ++ [enc x]) = lst s enc (l ++ [x]) := by simp [lst]
end
/-- **A loop over a list** that it reads from its head on. -/
theorem loop_list {α σ : Type} {i : Nat} (l : List α) (enc : Nat → σ → List AV) (G : Nat → List α → σ → Prop) {xs : List AV} {body : List AV → (List AV → Prop) → Prop} (s0 : σ) (h0 : xs = enc 0 s0) (hG : G 0 l s0)
    (hstep : ∀ n x rest s (K : List AV → Prop), l[n]? = some x → l.drop (n + 1) = rest → n < l.length → G n (x :: rest) s → (∀ zs s', zs = enc (n + 1) s' → G (n + 1) rest s' → K zs) → body (enc n s) K)
    (hend : ∀ s (K : List AV → Prop), G l.length [] s → body (enc l.length s) K) : fLoop i xs body := by
  subst h0
  refine ⟨fun m ys => ∃ n s, ys = enc n s ∧ n ≤ l.length ∧ m = l.length - n ∧ G n (l.drop n) s, l.length, ⟨0, s0, rfl, Nat.zero_le _, rfl, hG⟩, ?_⟩
  rintro m ys _ ⟨n, s, rfl, hn, rfl, hg⟩
  rcases Nat.lt_or_ge n l.length with h | h
  · rw [List.drop_eq_getElem_cons h] at hg
    refine hstep n l[n] (l.drop (n + 1)) s _ (List.getElem?_eq_getElem h) rfl h hg ?_
    rintro zs s' rfl hg'
    exact ⟨l.length - (n + 1), by omega, n + 1, s', rfl, h, rfl, hg'⟩
  · obtain rfl : n = l.length := by omega
    rw [List.drop_length] at hg
    exact hend s _ hg
/-- The same, from some element on. -/
theorem loop_from {α σ : Type} {i : Nat} (l : List α) (n0 : Nat) (hn0 : n0 ≤ l.length) (enc : Nat → σ → List AV) (G : Nat → List α → σ → Prop) {xs : List AV} {body : List AV → (List AV → Prop) → Prop} (s0 : σ) (h0 : xs = enc n0 s0) (hG : G n0 (l.drop n0) s0)
    (hstep : ∀ n x rest s (K : List AV → Prop), n0 ≤ n → l[n]? = some x → l.drop (n + 1) = rest → n < l.length → G n (x :: rest) s → (∀ zs s', zs = enc (n + 1) s' → G (n + 1) rest s' → K zs) → body (enc n s) K)
    (hend : ∀ s (K : List AV → Prop), G l.length [] s → body (enc l.length s) K) : fLoop i xs body := by
  subst h0
  refine ⟨fun m ys => ∃ n s, ys = enc n s ∧ n0 ≤ n ∧ n ≤ l.length ∧ m = l.length - n ∧ G n (l.drop n) s, l.length - n0, ⟨n0, s0, rfl, Nat.le_refl _, hn0, rfl, hG⟩, ?_⟩
  rintro m ys _ ⟨n, s, rfl, hnn, hn, rfl, hg⟩
  rcases Nat.lt_or_ge n l.length with h | h
  · rw [List.drop_eq_getElem_cons h] at hg
    refine hstep n l[n] (l.drop (n + 1)) s _ hnn (List.getElem?_eq_getElem h) rfl h hg ?_
    rintro zs s' rfl hg'
    exact ⟨l.length - (n + 1), by omega, n + 1, s', rfl, by omega, h, rfl, hg'⟩
  · obtain rfl : n = l.length := by omega
    rw [List.drop_length] at hg
    exact hend s _ hg
/-- A loop that counts to a bound. -/
theorem loop_nat {σ : Type} {i : Nat} (N : Nat) (enc : Nat → σ → List AV) (G : Nat → σ → Prop) {xs : List AV} {body : List AV → (List AV → Prop) → Prop} (s0 : σ) (h0 : xs = enc 0 s0) (hG : G 0 s0)
    (hstep : ∀ n s (K : List AV → Prop), n < N → G n s → (∀ zs s', zs = enc (n + 1) s' → G (n + 1) s' → K zs) → body (enc n s) K)
    (hend : ∀ s (K : List AV → Prop), G N s → body (enc N s) K) : fLoop i xs body := by
  subst h0
  refine ⟨fun m ys => ∃ n s, ys = enc n s ∧ n ≤ N ∧ m = N - n ∧ G n s, N, ⟨0, s0, rfl, Nat.zero_le _, rfl, hG⟩, ?_⟩
  rintro m ys _ ⟨n, s, rfl, hn, rfl, hg⟩
  rcases Nat.lt_or_ge n N with h | h
  · refine hstep n s _ h hg ?_
    rintro zs s' rfl hg'
    exact ⟨N - (n + 1), by omega, n + 1, s', rfl, h, rfl, hg'⟩
  · obtain rfl : n = N := by omega
    exact hend s _ hg
/-- Strings. -/
theorem bytes_eq {a b : ByteArray} : (a.toList == b.toList) = decide (a = b) := by
  by_cases h : a = b
  · subst h; simp
  · rw [decide_eq_false h]
    simp only [beq_eq_false_iff_ne, ne_eq]
    intro e
    apply h
    rw [ByteArray.toList_eq, ByteArray.toList_eq] at e
    exact ByteArray.ext (Array.toList_inj.1 e)
theorem less_eq : ∀ (x y : List UInt8), Op.bytesLess x y = decide (x < y)
  | [], [] => by simp [Op.bytesLess]
  | _ :: _, [] => by simp [Op.bytesLess]
  | [], _ :: _ => by simp [Op.bytesLess]
  | a :: x, b :: y => by
    rw [Op.bytesLess, less_eq x y]
    simp only [List.cons_lt_cons_iff]
    by_cases h1 : a < b <;> by_cases h2 : a = b <;> by_cases h3 : x < y <;> simp [h1, h2, h3]
section
variable {a b : ByteArray}
@[simp] theorem av_eql_str : AV.bin .eql (.lit (.string a)) (.lit (.string b)) = .lit (.bool (decide (a = b))) := by
  show AV.bool (a.toList == b.toList) = _; rw [bytes_eq]
@[simp] theorem av_neq_str : AV.bin .neq (.lit (.string a)) (.lit (.string b)) = .lit (.bool (!decide (a = b))) := by
  show AV.bool (!(a.toList == b.toList)) = _; rw [bytes_eq]
@[simp] theorem av_binOk_eqs : AV.binOk .eql (.lit (.string a)) (.lit (.string b)) ↔ True := Iff.rfl
@[simp] theorem av_binOk_nes : AV.binOk .neq (.lit (.string a)) (.lit (.string b)) ↔ True := Iff.rfl
@[simp] theorem av_binOk_lss : AV.binOk .lss (.lit (.string a)) (.lit (.string b)) ↔ True := Iff.rfl
@[simp] theorem av_binOk_leqs : AV.binOk .leq (.lit (.string a)) (.lit (.string b)) ↔ True := Iff.rfl
@[simp] theorem av_binOk_gts : AV.binOk .gtr (.lit (.string a)) (.lit (.string b)) ↔ True := Iff.rfl
@[simp] theorem av_binOk_ges : AV.binOk .geq (.lit (.string a)) (.lit (.string b)) ↔ True := Iff.rfl
/-- The order of strings: that of their bytes. -/
def key (a : ByteArray) : List UInt8 := a.data.toList
theorem key_inj (h : key a = key b) : a = b := ByteArray.ext (Array.toList_inj.1 h)
theorem lsle_eq : (Op.bytesLess a.toList b.toList || a.toList == b.toList) = decide (key a ≤ key b) := by
  rw [less_eq, ByteArray.toList_eq, ByteArray.toList_eq]
  unfold key
  by_cases h : a.data.toList ≤ b.data.toList
  · rw [decide_eq_true h]
    by_cases h2 : a.data.toList < b.data.toList
    · simp [h2]
    · have : a.data.toList = b.data.toList := List.le_antisymm h (List.not_lt.1 h2)
      simp [this]
  · rw [decide_eq_false h]
    have h3 := List.not_le.1 h
    have h4 : ¬ a.data.toList < b.data.toList := List.not_lt.2 (List.le_of_lt h3)
    have h5 : a.data.toList ≠ b.data.toList := fun e => h (by rw [e]; exact List.le_refl _)
    rw [decide_eq_false h4, Bool.false_or]
    exact beq_eq_false_iff_ne.2 h5
@[simp] theorem av_lss_str : AV.bin .lss (.lit (.string a)) (.lit (.string b)) = .lit (.bool (decide (key a < key b))) := by
  show AV.bool (Op.bytesLess a.toList b.toList) = _; rw [less_eq, ByteArray.toList_eq, ByteArray.toList_eq]; rfl
@[simp] theorem av_leq_str : AV.bin .leq (.lit (.string a)) (.lit (.string b)) = .lit (.bool (decide (key a ≤ key b))) := by
  show AV.bool (Op.bytesLess a.toList b.toList || a.toList == b.toList) = _; rw [lsle_eq]
@[simp] theorem av_gtr_str : AV.bin .gtr (.lit (.string a)) (.lit (.string b)) = .lit (.bool (!decide (key a ≤ key b))) := by
  show AV.bool (!(Op.bytesLess a.toList b.toList || a.toList == b.toList)) = _; rw [lsle_eq]
@[simp] theorem av_geq_str : AV.bin .geq (.lit (.string a)) (.lit (.string b)) = .lit (.bool (!decide (key a < key b))) := by
  show AV.bool (!Op.bytesLess a.toList b.toList) = _; rw [less_eq, ByteArray.toList_eq, ByteArray.toList_eq]; rfl
@[simp] theorem av_un_not {p : Bool} : AV.un .not (.lit (.bool p)) = .lit (.bool (!p)) := rfl
@[simp] theorem av_unOk_not {p : Bool} : AV.unOk .not (.lit (.bool p)) ↔ True := Iff.rfl
@[simp] theorem av_un_neg {k : IntKind} {n : Int} : AV.un .neg (.lit (.int k n)) = .lit (.int k (k.wrap (0 - n))) := rfl
@[simp] theorem av_unOk_neg {k : IntKind} {n : Int} : AV.unOk .neg (.lit (.int k n)) ↔ True := Iff.rfl
@[simp] theorem av_eqB {p q : Bool} : AV.eqB (.lit (.bool p)) (.lit (.bool q)) = .lit (.bool (p == q)) := rfl
@[simp] theorem av_neB {p q : Bool} : AV.neB (.lit (.bool p)) (.lit (.bool q)) = .lit (.bool (!(p == q))) := rfl
@[simp] theorem av_binOk_adds : AV.binOk .add (.lit (.string a)) (.lit (.string b)) ↔ ((a.size + b.size : Nat) : Int) ≤ 9223372036854775807 := Iff.rfl
@[simp] theorem av_adds : AV.bin .add (.lit (.string a)) (.lit (.string b)) = .lit (.string (a ++ b)) := rfl
@[simp] theorem av_eqc_int {k k' : IntKind} {m n : Int} : AV.eqc (.lit (.int k m)) (.lit (.int k' n)) = (m == n) := rfl
@[simp] theorem av_eqc_bool {p q : Bool} : AV.eqc (.lit (.bool p)) (.lit (.bool q)) = (p == q) := rfl
@[simp] theorem av_eqc_str : AV.eqc (.lit (.string a)) (.lit (.string b)) = decide (a = b) := bytes_eq
@[simp] theorem av_okA_int {k k' : IntKind} {n : Int} : okA (.int k) (.lit (.int k' n)) ↔ k' = k := ⟨fun ⟨_, e⟩ => by injection e with e; injection e, fun e => by subst e; exact ⟨_, rfl⟩⟩
@[simp] theorem av_okA_str : okA .str (.lit (.string a)) ↔ True := ⟨fun _ => trivial, fun _ => ⟨_, rfl⟩⟩
@[simp] theorem av_okA_bool {p : Bool} : okA .bool (.lit (.bool p)) ↔ True := ⟨fun _ => trivial, fun _ => ⟨_, rfl⟩⟩
end
@[simp] theorem av_mkRef {cs : List AV} : AV.mkRef cs = .ref cs := rfl
@[simp] theorem av_mkClo {f : FuncId} {cs : List AV} : AV.mkClo f cs = .clo f cs := rfl
@[simp] theorem av_isRef {cs : List AV} {m : Nat} : AV.isRef (.ref cs) m ↔ cs.length = m := ⟨fun ⟨_, e, h⟩ => by injection e with e; rw [e]; exact h, fun h => ⟨cs, rfl, h⟩⟩
@[simp] theorem av_der {x : AV} {cs : List AV} : AV.der (.ref (x :: cs)) = x := rfl
@[simp] theorem av_derA {cs : List AV} : AV.derA (.ref cs) = .agg cs := rfl
/-- The first place at which p holds; -1: none. -/
def idxN {α : Type} (p : α → Bool) : Nat → List α → Int
  | _, [] => -1
  | n, x :: r => if p x = true then (n : Int) else idxN p (n + 1) r
theorem idxN_spec {α : Type} (p : α → Bool) : ∀ (l : List α) (n : Nat), (idxN p n l = -1 ∧ ∀ x ∈ l, p x = false) ∨ ∃ i x, idxN p n l = ((n + i : Nat) : Int) ∧ l[i]? = some x ∧ p x = true
  | [], n => .inl ⟨rfl, fun x h => by simp at h⟩
  | x :: r, n => by
    by_cases h : p x = true
    · exact .inr ⟨0, x, by simp [idxN, h], rfl, h⟩
    · have h' : p x = false := by simpa using h
      rcases idxN_spec p r (n + 1) with ⟨h1, h2⟩ | ⟨i, y, h1, h2, h3⟩
      · exact .inl ⟨by simp [idxN, h', h1], fun z hz => (List.mem_cons.1 hz).elim (fun e => e ▸ h') (fun hz => h2 z hz)⟩
      · exact .inr ⟨i + 1, y, by simp only [idxN, h', Bool.false_eq_true, if_false, h1]; congr 1; omega, by simpa using h2, h3⟩
theorem idxN_any {α : Type} (p : α → Bool) (l : List α) (n : Nat) : (0 ≤ idxN p n l) ↔ l.any p = true := by
  rcases idxN_spec p l n with ⟨h1, h2⟩ | ⟨i, x, h1, h2, h3⟩
  · rw [h1]
    refine ⟨fun h => absurd h (by omega), fun h => ?_⟩
    obtain ⟨x, hx, hp⟩ := List.any_eq_true.1 h
    rw [h2 x hx] at hp; cases hp
  · rw [h1]
    exact ⟨fun _ => List.any_eq_true.2 ⟨x, List.mem_of_getElem? h2, h3⟩, fun _ => by omega⟩
/-- slices.Equal's loop. -/
theorem equal_loop {α : Type} [DecidableEq α] {i : Nat} (l m : List α) (hlen : l.length = m.length) {body : List AV → (List AV → Prop) → Prop} {r : AV} (hr : r = .bool (decide (l = m)))
    (hbody : ∀ (n : Nat) x y (K : List AV → Prop), l[n]? = some x → m[n]? = some y → n < l.length → (x ≠ y → r = .bool false) → (x = y → K [.int ((n : Nat) + 1)]) → body [.int (n : Nat)] K)
    (hend : ∀ K, r = .bool true → body [.int (l.length : Nat)] K) : fLoop i [.int 0] body := by
  refine loop_nat (σ := Unit) l.length (fun n _ => [.int (n : Nat)]) (fun n _ => l.take n = m.take n) () rfl (by simp) ?_ ?_
  · intro n _ K hn hg hK
    have hm : n < m.length := by omega
    refine hbody n l[n] m[n] K (List.getElem?_eq_getElem hn) (List.getElem?_eq_getElem hm) hn (fun hne => ?_) (fun e => ?_)
    · rw [hr, decide_eq_false]
      rintro rfl
      exact hne rfl
    · refine hK _ () (by simp) ?_
      rw [← List.take_append_getElem hn, ← List.take_append_getElem hm, hg, e]
  · intro _ K hg
    refine hend K ?_
    rw [hr, decide_eq_true]
    rw [List.take_length, hlen, List.take_length] at hg
    exact hg
/-- A nil slice that is not named by its type. -/
inductive NL : AV → AV → Prop
  | refl (x : AV) : NL x x
  | nil (s : Nat) : NL (.lit (.slice none 0 0)) (.sl s [])
  | agg (cs ds : List AV) (h : cs.length = ds.length) (hi : ∀ i, i < cs.length → NL (cs.getD i default) (ds.getD i default)) : NL (.agg cs) (.agg ds)
theorem NL.rv {w : World} {ok : Nat → Prop} {x y : AV} {v : Value} (h : NL x y) (hv : RV w ok x v) : RV w ok y v := by
  induction h generalizing v with
  | refl x => exact hv
  | nil s => cases hv; exact .sl s [] none 0 0 (fun _ _ => undef) rfl (Nat.le_refl _) (by unfold maxLen; omega) (by simp) (fun q => absurd q (by omega)) (fun i j hi => absurd hi (by omega)) (fun i j hi => absurd hi (by omega))
  | agg cs ds h hi ih =>
    cases hv with
    | agg _ vs h1 h2 h3 => exact .agg ds vs (h1.trans h) (fun i q => h2 i (h ▸ q)) fun i q => ih i (h ▸ q) (h3 i (h ▸ q))
inductive NLs : List AV → List AV → Prop
  | nil : NLs [] []
  | cons {x y : AV} {l m : List AV} (h : NL x y) (t : NLs l m) : NLs (x :: l) (y :: m)
theorem NLs.get {l m : List AV} (h : NLs l m) : l.length = m.length ∧ ∀ i, i < l.length → NL (l.getD i default) (m.getD i default) := by
  induction h with
  | nil => exact ⟨rfl, fun i h => absurd h (by simp)⟩
  | cons h t ih =>
    refine ⟨by simp [ih.1], fun i hi => ?_⟩
    cases i with
    | zero => exact h
    | succ i => simpa using ih.2 i (by simpa using hi)
theorem NL.aggs {l m : List AV} (h : NLs l m) : NL (.agg l) (.agg m) := .agg _ _ h.get.1 h.get.2
theorem Fn.nl {P : Program} {f : FuncId} {args args' : List AV} {sh : Sh} {r : AV} (h : Fn P f args sh r) (hn : NLs args' args) : Fn P f args' sh r :=
  ⟨h.1, fun w ok cargs h1 hgl h2 h3 => h.2 w ok cargs h1 hgl (h2.trans hn.get.1) fun i hi => (hn.get.2 i (hn.get.1 ▸ hi)).rv (h3 i (hn.get.1 ▸ hi))⟩
end Go.Proofs.Ytpidhccaoponfaa
/- Arguments of plain types, opened. -/
namespace Go.Proofs.Ytpidhccaoponfaa
open Go.RowKit
set_option linter.unusedVariables false
def I64 (n : Int) : Prop := -9223372036854775808 ≤ n ∧ n ≤ 9223372036854775807
theorem i64_of {n : Int} (h : (Lit.int .i64 n).wf = true) : I64 n := by
  have h' : (IntKind.i64.min ≤ n && n ≤ IntKind.i64.max) = true := h
  simp only [Bool.and_eq_true, decide_eq_true_eq] at h'
  have e1 : IntKind.i64.min = -9223372036854775808 := by decide
  have e2 : IntKind.i64.max = 9223372036854775807 := by decide
  rw [e1, e2] at h'
  exact h'
section
variable {P : Program} {u e : TypeId} {x : AV} {d : Nat}
theorem c_int (hu : P.underlying u = some (.int .i64)) (h : CellOk P (d + 1) u x) : ∃ n, x = .int n ∧ I64 n := by
  obtain ⟨n, e, hw⟩ := cell_int hu h
  exact ⟨n, e, i64_of hw⟩
theorem c_str (hu : P.underlying u = some .string) (h : CellOk P (d + 1) u x) : ∃ s : ByteArray, x = .string s ∧ s.size ≤ maxLen := cell_str hu h
theorem c_bool (hu : P.underlying u = some .bool) (h : CellOk P (d + 1) u x) : ∃ b, x = .bool b := cell_bool hu h
/-- A slice whose elements are read by 'encA'. -/
theorem c_lst {α : Type} {encA : α → List AV} {Q : α → Prop} {tys : List TypeId} {s : Nat} (hu : P.underlying u = some (.slice e)) (ht : flatTy P 8 e = some tys) (hs : P.cellsOf e = s)
    (hd : ∀ y : List AV, y.length = tys.length → (∀ i u', tys[i]? = some u' → CellOk P d u' (y.getD i default)) → ∃ a, y = encA a ∧ Q a) (h : CellOk P (d + 1) u x) : ∃ l : List α, x = lst s encA l ∧ l.length ≤ maxLen ∧ ∀ a ∈ l, Q a := by
  obtain ⟨L, e1, h1, h2⟩ := cell_sl hu ht hs h
  obtain ⟨l, e2, h3⟩ := list_dec (L := L) (encA := encA) (Q := Q) fun y hy => hd y (h2 y hy).1 (h2 y hy).2
  subst e2
  exact ⟨l, e1, by simpa using h1, h3⟩
end
end Go.Proofs.Ytpidhccaoponfaa
/- Names: what the run ends in. -/
namespace Go.Proofs.Ytpidhccaoponfaa
open Go.RowKit
set_option linter.unusedVariables false
set_option maxRecDepth 100000
namespace NameF
--GAMMA
def Γ : FuncId → Option Ca := fun _ => none
def ann : FuncId → Nat → LoopEx := fun _ _ => ⟨[], [], [], []⟩
--END GAMMA
theorem name_form (x0 r : AV) : fnF Try.prog Γ ann 0 30 Try.f30 (Try.f30.body.getD .skip) (.nil) [x0] (.sc) r = (((AV.isStr x0) ∧
((AV.binOk Go.BinOp.lss (AV.slen x0) (AV.int 1)) ∧
((AV.isBool (AV.bin Go.BinOp.lss (AV.slen x0) (AV.int 1))) ∧
(((isT (AV.bin Go.BinOp.lss (AV.slen x0) (AV.int 1))) →
  ((AV.isBool (AV.bin Go.BinOp.lss (AV.slen x0) (AV.int 1))) ∧
  ((isT (AV.bin Go.BinOp.lss (AV.slen x0) (AV.int 1))) ∧
  ((AV.flat (AV.bool false)) ∧
  (fSame (AV.bool false) r))))) ∧
((isF (AV.bin Go.BinOp.lss (AV.slen x0) (AV.int 1))) →
  ((AV.isStr x0) ∧
  ((AV.binOk Go.BinOp.gtr (AV.slen x0) (AV.int 8)) ∧
  ((AV.isBool (AV.bin Go.BinOp.lss (AV.slen x0) (AV.int 1))) ∧
  ((isF (AV.bin Go.BinOp.lss (AV.slen x0) (AV.int 1))) ∧
  ((AV.isBool (AV.bin Go.BinOp.gtr (AV.slen x0) (AV.int 8))) ∧
  (((isT (AV.bin Go.BinOp.gtr (AV.slen x0) (AV.int 8))) →
    ((AV.flat (AV.bool false)) ∧
    (fSame (AV.bool false) r))) ∧
  ((isF (AV.bin Go.BinOp.gtr (AV.slen x0) (AV.int 8))) →
    ((AV.isStr x0) ∧
    ((AV.bytesOk x0) ∧
    ((AV.isSl (AV.bytes x0) 1) ∧
    (fLoop 833 [(AV.int 0)] fun ys833 again833 =>
      ((AV.binOk Go.BinOp.lss (ys833.getD 0 default) (AV.len (AV.bytes x0))) ∧
      ((AV.isBool (AV.bin Go.BinOp.lss (ys833.getD 0 default) (AV.len (AV.bytes x0)))) ∧
      (((isT (AV.bin Go.BinOp.lss (ys833.getD 0 default) (AV.len (AV.bytes x0)))) →
        ((AV.isSl (AV.bytes x0) 1) ∧
        ((AV.inb (AV.bytes x0) (ys833.getD 0 default)) ∧
        ((AV.binOk Go.BinOp.geq (AV.at (AV.bytes x0) (ys833.getD 0 default) 0) (AV.lit (Value.int Go.IntKind.u8 65))) ∧
        ((AV.isBool (AV.bin Go.BinOp.geq (AV.at (AV.bytes x0) (ys833.getD 0 default) 0) (AV.lit (Value.int Go.IntKind.u8 65)))) ∧
        (((isT (AV.bin Go.BinOp.geq (AV.at (AV.bytes x0) (ys833.getD 0 default) 0) (AV.lit (Value.int Go.IntKind.u8 65)))) →
          ((AV.binOk Go.BinOp.leq (AV.at (AV.bytes x0) (ys833.getD 0 default) 0) (AV.lit (Value.int Go.IntKind.u8 90))) ∧
          ((AV.isBool (AV.bin Go.BinOp.geq (AV.at (AV.bytes x0) (ys833.getD 0 default) 0) (AV.lit (Value.int Go.IntKind.u8 65)))) ∧
          ((isT (AV.bin Go.BinOp.geq (AV.at (AV.bytes x0) (ys833.getD 0 default) 0) (AV.lit (Value.int Go.IntKind.u8 65)))) ∧
          ((AV.isBool (AV.bin Go.BinOp.leq (AV.at (AV.bytes x0) (ys833.getD 0 default) 0) (AV.lit (Value.int Go.IntKind.u8 90)))) ∧
          (((isT (AV.bin Go.BinOp.leq (AV.at (AV.bytes x0) (ys833.getD 0 default) 0) (AV.lit (Value.int Go.IntKind.u8 90)))) →
            ((AV.isBool (AV.bin Go.BinOp.leq (AV.at (AV.bytes x0) (ys833.getD 0 default) 0) (AV.lit (Value.int Go.IntKind.u8 90)))) ∧
            ((isT (AV.bin Go.BinOp.leq (AV.at (AV.bytes x0) (ys833.getD 0 default) 0) (AV.lit (Value.int Go.IntKind.u8 90)))) ∧
            ((AV.binOk Go.BinOp.add (ys833.getD 0 default) (AV.int 1)) ∧
            (again833 [(AV.bin Go.BinOp.add (ys833.getD 0 default) (AV.int 1))]))))) ∧
          ((isF (AV.bin Go.BinOp.leq (AV.at (AV.bytes x0) (ys833.getD 0 default) 0) (AV.lit (Value.int Go.IntKind.u8 90)))) →
            ((AV.binOk Go.BinOp.gtr (ys833.getD 0 default) (AV.int 0)) ∧
            ((AV.isBool (AV.bin Go.BinOp.gtr (ys833.getD 0 default) (AV.int 0))) ∧
            (((isT (AV.bin Go.BinOp.gtr (ys833.getD 0 default) (AV.int 0))) →
              ((AV.binOk Go.BinOp.geq (AV.at (AV.bytes x0) (ys833.getD 0 default) 0) (AV.lit (Value.int Go.IntKind.u8 48))) ∧
              ((AV.isBool (AV.bin Go.BinOp.gtr (ys833.getD 0 default) (AV.int 0))) ∧
              ((isT (AV.bin Go.BinOp.gtr (ys833.getD 0 default) (AV.int 0))) ∧
              ((AV.isBool (AV.bin Go.BinOp.geq (AV.at (AV.bytes x0) (ys833.getD 0 default) 0) (AV.lit (Value.int Go.IntKind.u8 48)))) ∧
              (((isT (AV.bin Go.BinOp.geq (AV.at (AV.bytes x0) (ys833.getD 0 default) 0) (AV.lit (Value.int Go.IntKind.u8 48)))) →
                ((AV.binOk Go.BinOp.leq (AV.at (AV.bytes x0) (ys833.getD 0 default) 0) (AV.lit (Value.int Go.IntKind.u8 57))) ∧
                ((AV.isBool (AV.bin Go.BinOp.geq (AV.at (AV.bytes x0) (ys833.getD 0 default) 0) (AV.lit (Value.int Go.IntKind.u8 48)))) ∧
                ((isT (AV.bin Go.BinOp.geq (AV.at (AV.bytes x0) (ys833.getD 0 default) 0) (AV.lit (Value.int Go.IntKind.u8 48)))) ∧
                ((AV.isBool (AV.bin Go.BinOp.leq (AV.at (AV.bytes x0) (ys833.getD 0 default) 0) (AV.lit (Value.int Go.IntKind.u8 90)))) ∧
                ((isF (AV.bin Go.BinOp.leq (AV.at (AV.bytes x0) (ys833.getD 0 default) 0) (AV.lit (Value.int Go.IntKind.u8 90)))) ∧
                ((AV.unOk Go.UnOp.not (AV.bin Go.BinOp.leq (AV.at (AV.bytes x0) (ys833.getD 0 default) 0) (AV.lit (Value.int Go.IntKind.u8 57)))) ∧
                ((AV.isBool (AV.un Go.UnOp.not (AV.bin Go.BinOp.leq (AV.at (AV.bytes x0) (ys833.getD 0 default) 0) (AV.lit (Value.int Go.IntKind.u8 57))))) ∧
                (((isT (AV.un Go.UnOp.not (AV.bin Go.BinOp.leq (AV.at (AV.bytes x0) (ys833.getD 0 default) 0) (AV.lit (Value.int Go.IntKind.u8 57))))) →
                  ((AV.flat (AV.bool false)) ∧
                  (fSame (AV.bool false) r))) ∧
                ((isF (AV.un Go.UnOp.not (AV.bin Go.BinOp.leq (AV.at (AV.bytes x0) (ys833.getD 0 default) 0) (AV.lit (Value.int Go.IntKind.u8 57))))) →
                  ((AV.binOk Go.BinOp.add (ys833.getD 0 default) (AV.int 1)) ∧
                  (again833 [(AV.bin Go.BinOp.add (ys833.getD 0 default) (AV.int 1))])))))))))))) ∧
              ((isF (AV.bin Go.BinOp.geq (AV.at (AV.bytes x0) (ys833.getD 0 default) 0) (AV.lit (Value.int Go.IntKind.u8 48)))) →
                ((AV.isBool (AV.bin Go.BinOp.geq (AV.at (AV.bytes x0) (ys833.getD 0 default) 0) (AV.lit (Value.int Go.IntKind.u8 48)))) ∧
                ((isF (AV.bin Go.BinOp.geq (AV.at (AV.bytes x0) (ys833.getD 0 default) 0) (AV.lit (Value.int Go.IntKind.u8 48)))) ∧
                ((AV.isBool (AV.bin Go.BinOp.leq (AV.at (AV.bytes x0) (ys833.getD 0 default) 0) (AV.lit (Value.int Go.IntKind.u8 90)))) ∧
                ((isF (AV.bin Go.BinOp.leq (AV.at (AV.bytes x0) (ys833.getD 0 default) 0) (AV.lit (Value.int Go.IntKind.u8 90)))) ∧
                ((AV.flat (AV.bool false)) ∧
                (fSame (AV.bool false) r))))))))))))) ∧
            ((isF (AV.bin Go.BinOp.gtr (ys833.getD 0 default) (AV.int 0))) →
              ((AV.isBool (AV.bin Go.BinOp.gtr (ys833.getD 0 default) (AV.int 0))) ∧
              ((isF (AV.bin Go.BinOp.gtr (ys833.getD 0 default) (AV.int 0))) ∧
              ((AV.isBool (AV.bin Go.BinOp.leq (AV.at (AV.bytes x0) (ys833.getD 0 default) 0) (AV.lit (Value.int Go.IntKind.u8 90)))) ∧
              ((isF (AV.bin Go.BinOp.leq (AV.at (AV.bytes x0) (ys833.getD 0 default) 0) (AV.lit (Value.int Go.IntKind.u8 90)))) ∧
              ((AV.flat (AV.bool false)) ∧
              (fSame (AV.bool false) r))))))))))))))))) ∧
        ((isF (AV.bin Go.BinOp.geq (AV.at (AV.bytes x0) (ys833.getD 0 default) 0) (AV.lit (Value.int Go.IntKind.u8 65)))) →
          ((AV.isBool (AV.bin Go.BinOp.geq (AV.at (AV.bytes x0) (ys833.getD 0 default) 0) (AV.lit (Value.int Go.IntKind.u8 65)))) ∧
          ((isF (AV.bin Go.BinOp.geq (AV.at (AV.bytes x0) (ys833.getD 0 default) 0) (AV.lit (Value.int Go.IntKind.u8 65)))) ∧
          ((AV.binOk Go.BinOp.gtr (ys833.getD 0 default) (AV.int 0)) ∧
          ((AV.isBool (AV.bin Go.BinOp.gtr (ys833.getD 0 default) (AV.int 0))) ∧
          (((isT (AV.bin Go.BinOp.gtr (ys833.getD 0 default) (AV.int 0))) →
            ((AV.binOk Go.BinOp.geq (AV.at (AV.bytes x0) (ys833.getD 0 default) 0) (AV.lit (Value.int Go.IntKind.u8 48))) ∧
            ((AV.isBool (AV.bin Go.BinOp.gtr (ys833.getD 0 default) (AV.int 0))) ∧
            ((isT (AV.bin Go.BinOp.gtr (ys833.getD 0 default) (AV.int 0))) ∧
            ((AV.isBool (AV.bin Go.BinOp.geq (AV.at (AV.bytes x0) (ys833.getD 0 default) 0) (AV.lit (Value.int Go.IntKind.u8 48)))) ∧
            (((isT (AV.bin Go.BinOp.geq (AV.at (AV.bytes x0) (ys833.getD 0 default) 0) (AV.lit (Value.int Go.IntKind.u8 48)))) →
              ((AV.binOk Go.BinOp.leq (AV.at (AV.bytes x0) (ys833.getD 0 default) 0) (AV.lit (Value.int Go.IntKind.u8 57))) ∧
              ((AV.isBool (AV.bin Go.BinOp.geq (AV.at (AV.bytes x0) (ys833.getD 0 default) 0) (AV.lit (Value.int Go.IntKind.u8 48)))) ∧
              ((isT (AV.bin Go.BinOp.geq (AV.at (AV.bytes x0) (ys833.getD 0 default) 0) (AV.lit (Value.int Go.IntKind.u8 48)))) ∧
              ((AV.unOk Go.UnOp.not (AV.bin Go.BinOp.leq (AV.at (AV.bytes x0) (ys833.getD 0 default) 0) (AV.lit (Value.int Go.IntKind.u8 57)))) ∧
              ((AV.isBool (AV.un Go.UnOp.not (AV.bin Go.BinOp.leq (AV.at (AV.bytes x0) (ys833.getD 0 default) 0) (AV.lit (Value.int Go.IntKind.u8 57))))) ∧
              (((isT (AV.un Go.UnOp.not (AV.bin Go.BinOp.leq (AV.at (AV.bytes x0) (ys833.getD 0 default) 0) (AV.lit (Value.int Go.IntKind.u8 57))))) →
                ((AV.flat (AV.bool false)) ∧
                (fSame (AV.bool false) r))) ∧
              ((isF (AV.un Go.UnOp.not (AV.bin Go.BinOp.leq (AV.at (AV.bytes x0) (ys833.getD 0 default) 0) (AV.lit (Value.int Go.IntKind.u8 57))))) →
                ((AV.binOk Go.BinOp.add (ys833.getD 0 default) (AV.int 1)) ∧
                (again833 [(AV.bin Go.BinOp.add (ys833.getD 0 default) (AV.int 1))])))))))))) ∧
            ((isF (AV.bin Go.BinOp.geq (AV.at (AV.bytes x0) (ys833.getD 0 default) 0) (AV.lit (Value.int Go.IntKind.u8 48)))) →
              ((AV.isBool (AV.bin Go.BinOp.geq (AV.at (AV.bytes x0) (ys833.getD 0 default) 0) (AV.lit (Value.int Go.IntKind.u8 48)))) ∧
              ((isF (AV.bin Go.BinOp.geq (AV.at (AV.bytes x0) (ys833.getD 0 default) 0) (AV.lit (Value.int Go.IntKind.u8 48)))) ∧
              ((AV.flat (AV.bool false)) ∧
              (fSame (AV.bool false) r))))))))))) ∧
          ((isF (AV.bin Go.BinOp.gtr (ys833.getD 0 default) (AV.int 0))) →
            ((AV.isBool (AV.bin Go.BinOp.gtr (ys833.getD 0 default) (AV.int 0))) ∧
            ((isF (AV.bin Go.BinOp.gtr (ys833.getD 0 default) (AV.int 0))) ∧
            ((AV.flat (AV.bool false)) ∧
            (fSame (AV.bool false) r))))))))))))))))) ∧
      ((isF (AV.bin Go.BinOp.lss (ys833.getD 0 default) (AV.len (AV.bytes x0)))) →
        ((AV.flat (AV.bool true)) ∧
        (fSame (AV.bool true) r))))))))))))))))))))))) := by kernel_rfl
theorem isname_form (x0 r : AV) : fnF Try.prog Γ ann 0 12 Try.f12 (Try.f12.body.getD .skip) (.nil) [x0] (.sc) r = (((AV.binOk Go.BinOp.eql x0 (AV.lit (Value.string ⟨#[]⟩))) ∧
((AV.isBool (AV.bin Go.BinOp.eql x0 (AV.lit (Value.string ⟨#[]⟩)))) ∧
(((isT (AV.bin Go.BinOp.eql x0 (AV.lit (Value.string ⟨#[]⟩)))) →
  ((AV.isBool (AV.bin Go.BinOp.eql x0 (AV.lit (Value.string ⟨#[]⟩)))) ∧
  ((isT (AV.bin Go.BinOp.eql x0 (AV.lit (Value.string ⟨#[]⟩)))) ∧
  ((AV.flat (AV.bool false)) ∧
  (fSame (AV.bool false) r))))) ∧
((isF (AV.bin Go.BinOp.eql x0 (AV.lit (Value.string ⟨#[]⟩)))) →
  ((AV.isStr x0) ∧
  ((AV.binOk Go.BinOp.gtr (AV.slen x0) (AV.int 8)) ∧
  ((AV.isBool (AV.bin Go.BinOp.eql x0 (AV.lit (Value.string ⟨#[]⟩)))) ∧
  ((isF (AV.bin Go.BinOp.eql x0 (AV.lit (Value.string ⟨#[]⟩)))) ∧
  ((AV.isBool (AV.bin Go.BinOp.gtr (AV.slen x0) (AV.int 8))) ∧
  (((isT (AV.bin Go.BinOp.gtr (AV.slen x0) (AV.int 8))) →
    ((AV.isBool (AV.bin Go.BinOp.gtr (AV.slen x0) (AV.int 8))) ∧
    ((isT (AV.bin Go.BinOp.gtr (AV.slen x0) (AV.int 8))) ∧
    ((AV.flat (AV.bool false)) ∧
    (fSame (AV.bool false) r))))) ∧
  ((isF (AV.bin Go.BinOp.gtr (AV.slen x0) (AV.int 8))) →
    ((AV.isStr x0) ∧
    ((AV.sinb x0 (AV.int 0)) ∧
    ((AV.binOk Go.BinOp.geq (AV.sat x0 (AV.int 0)) (AV.lit (Value.int Go.IntKind.u8 48))) ∧
    ((AV.isBool (AV.bin Go.BinOp.geq (AV.sat x0 (AV.int 0)) (AV.lit (Value.int Go.IntKind.u8 48)))) ∧
    (((isT (AV.bin Go.BinOp.geq (AV.sat x0 (AV.int 0)) (AV.lit (Value.int Go.IntKind.u8 48)))) →
      ((AV.isStr x0) ∧
      ((AV.sinb x0 (AV.int 0)) ∧
      ((AV.binOk Go.BinOp.leq (AV.sat x0 (AV.int 0)) (AV.lit (Value.int Go.IntKind.u8 57))) ∧
      ((AV.isBool (AV.bin Go.BinOp.geq (AV.sat x0 (AV.int 0)) (AV.lit (Value.int Go.IntKind.u8 48)))) ∧
      ((isT (AV.bin Go.BinOp.geq (AV.sat x0 (AV.int 0)) (AV.lit (Value.int Go.IntKind.u8 48)))) ∧
      ((AV.isBool (AV.bin Go.BinOp.gtr (AV.slen x0) (AV.int 8))) ∧
      ((isF (AV.bin Go.BinOp.gtr (AV.slen x0) (AV.int 8))) ∧
      ((AV.isBool (AV.bin Go.BinOp.leq (AV.sat x0 (AV.int 0)) (AV.lit (Value.int Go.IntKind.u8 57)))) ∧
      (((isT (AV.bin Go.BinOp.leq (AV.sat x0 (AV.int 0)) (AV.lit (Value.int Go.IntKind.u8 57)))) →
        ((AV.flat (AV.bool false)) ∧
        (fSame (AV.bool false) r))) ∧
      ((isF (AV.bin Go.BinOp.leq (AV.sat x0 (AV.int 0)) (AV.lit (Value.int Go.IntKind.u8 57)))) →
        (fLoop 1217 [(AV.int 0)] fun ys1217 again1217 =>
          ((AV.isStr x0) ∧
          ((AV.binOk Go.BinOp.lss (ys1217.getD 0 default) (AV.slen x0)) ∧
          ((AV.isBool (AV.bin Go.BinOp.lss (ys1217.getD 0 default) (AV.slen x0))) ∧
          (((isT (AV.bin Go.BinOp.lss (ys1217.getD 0 default) (AV.slen x0))) →
            ((AV.isStr x0) ∧
            ((AV.sinb x0 (ys1217.getD 0 default)) ∧
            ((AV.binOk Go.BinOp.lss (AV.sat x0 (ys1217.getD 0 default)) (AV.lit (Value.int Go.IntKind.u8 65))) ∧
            ((AV.isBool (AV.bin Go.BinOp.lss (AV.sat x0 (ys1217.getD 0 default)) (AV.lit (Value.int Go.IntKind.u8 65)))) ∧
            (((isT (AV.bin Go.BinOp.lss (AV.sat x0 (ys1217.getD 0 default)) (AV.lit (Value.int Go.IntKind.u8 65)))) →
              ((AV.isBool (AV.bin Go.BinOp.lss (AV.sat x0 (ys1217.getD 0 default)) (AV.lit (Value.int Go.IntKind.u8 65)))) ∧
              ((isT (AV.bin Go.BinOp.lss (AV.sat x0 (ys1217.getD 0 default)) (AV.lit (Value.int Go.IntKind.u8 65)))) ∧
              ((AV.binOk Go.BinOp.lss (AV.sat x0 (ys1217.getD 0 default)) (AV.lit (Value.int Go.IntKind.u8 48))) ∧
              ((AV.isBool (AV.bin Go.BinOp.lss (AV.sat x0 (ys1217.getD 0 default)) (AV.lit (Value.int Go.IntKind.u8 48)))) ∧
              (((isT (AV.bin Go.BinOp.lss (AV.sat x0 (ys1217.getD 0 default)) (AV.lit (Value.int Go.IntKind.u8 48)))) →
                ((AV.isBool (AV.bin Go.BinOp.lss (AV.sat x0 (ys1217.getD 0 default)) (AV.lit (Value.int Go.IntKind.u8 48)))) ∧
                ((isT (AV.bin Go.BinOp.lss (AV.sat x0 (ys1217.getD 0 default)) (AV.lit (Value.int Go.IntKind.u8 48)))) ∧
                ((AV.flat (AV.bool false)) ∧
                (fSame (AV.bool false) r))))) ∧
              ((isF (AV.bin Go.BinOp.lss (AV.sat x0 (ys1217.getD 0 default)) (AV.lit (Value.int Go.IntKind.u8 48)))) →
                ((AV.binOk Go.BinOp.gtr (AV.sat x0 (ys1217.getD 0 default)) (AV.lit (Value.int Go.IntKind.u8 57))) ∧
                ((AV.isBool (AV.bin Go.BinOp.lss (AV.sat x0 (ys1217.getD 0 default)) (AV.lit (Value.int Go.IntKind.u8 48)))) ∧
                ((isF (AV.bin Go.BinOp.lss (AV.sat x0 (ys1217.getD 0 default)) (AV.lit (Value.int Go.IntKind.u8 48)))) ∧
                ((AV.isBool (AV.bin Go.BinOp.gtr (AV.sat x0 (ys1217.getD 0 default)) (AV.lit (Value.int Go.IntKind.u8 57)))) ∧
                (((isT (AV.bin Go.BinOp.gtr (AV.sat x0 (ys1217.getD 0 default)) (AV.lit (Value.int Go.IntKind.u8 57)))) →
                  ((AV.flat (AV.bool false)) ∧
                  (fSame (AV.bool false) r))) ∧
                ((isF (AV.bin Go.BinOp.gtr (AV.sat x0 (ys1217.getD 0 default)) (AV.lit (Value.int Go.IntKind.u8 57)))) →
                  ((AV.binOk Go.BinOp.add (ys1217.getD 0 default) (AV.int 1)) ∧
                  (again1217 [(AV.bin Go.BinOp.add (ys1217.getD 0 default) (AV.int 1))]))))))))))))))) ∧
            ((isF (AV.bin Go.BinOp.lss (AV.sat x0 (ys1217.getD 0 default)) (AV.lit (Value.int Go.IntKind.u8 65)))) →
              ((AV.binOk Go.BinOp.gtr (AV.sat x0 (ys1217.getD 0 default)) (AV.lit (Value.int Go.IntKind.u8 90))) ∧
              ((AV.isBool (AV.bin Go.BinOp.lss (AV.sat x0 (ys1217.getD 0 default)) (AV.lit (Value.int Go.IntKind.u8 65)))) ∧
              ((isF (AV.bin Go.BinOp.lss (AV.sat x0 (ys1217.getD 0 default)) (AV.lit (Value.int Go.IntKind.u8 65)))) ∧
              ((AV.isBool (AV.bin Go.BinOp.gtr (AV.sat x0 (ys1217.getD 0 default)) (AV.lit (Value.int Go.IntKind.u8 90)))) ∧
              (((isT (AV.bin Go.BinOp.gtr (AV.sat x0 (ys1217.getD 0 default)) (AV.lit (Value.int Go.IntKind.u8 90)))) →
                ((AV.binOk Go.BinOp.lss (AV.sat x0 (ys1217.getD 0 default)) (AV.lit (Value.int Go.IntKind.u8 48))) ∧
                ((AV.isBool (AV.bin Go.BinOp.lss (AV.sat x0 (ys1217.getD 0 default)) (AV.lit (Value.int Go.IntKind.u8 48)))) ∧
                (((isT (AV.bin Go.BinOp.lss (AV.sat x0 (ys1217.getD 0 default)) (AV.lit (Value.int Go.IntKind.u8 48)))) →
                  ((AV.isBool (AV.bin Go.BinOp.lss (AV.sat x0 (ys1217.getD 0 default)) (AV.lit (Value.int Go.IntKind.u8 48)))) ∧
                  ((isT (AV.bin Go.BinOp.lss (AV.sat x0 (ys1217.getD 0 default)) (AV.lit (Value.int Go.IntKind.u8 48)))) ∧
                  ((AV.isBool (AV.bin Go.BinOp.gtr (AV.sat x0 (ys1217.getD 0 default)) (AV.lit (Value.int Go.IntKind.u8 90)))) ∧
                  ((isT (AV.bin Go.BinOp.gtr (AV.sat x0 (ys1217.getD 0 default)) (AV.lit (Value.int Go.IntKind.u8 90)))) ∧
                  ((AV.flat (AV.bool false)) ∧
                  (fSame (AV.bool false) r))))))) ∧
                ((isF (AV.bin Go.BinOp.lss (AV.sat x0 (ys1217.getD 0 default)) (AV.lit (Value.int Go.IntKind.u8 48)))) →
                  ((AV.binOk Go.BinOp.gtr (AV.sat x0 (ys1217.getD 0 default)) (AV.lit (Value.int Go.IntKind.u8 57))) ∧
                  ((AV.isBool (AV.bin Go.BinOp.lss (AV.sat x0 (ys1217.getD 0 default)) (AV.lit (Value.int Go.IntKind.u8 48)))) ∧
                  ((isF (AV.bin Go.BinOp.lss (AV.sat x0 (ys1217.getD 0 default)) (AV.lit (Value.int Go.IntKind.u8 48)))) ∧
                  ((AV.isBool (AV.bin Go.BinOp.gtr (AV.sat x0 (ys1217.getD 0 default)) (AV.lit (Value.int Go.IntKind.u8 90)))) ∧
                  ((isT (AV.bin Go.BinOp.gtr (AV.sat x0 (ys1217.getD 0 default)) (AV.lit (Value.int Go.IntKind.u8 90)))) ∧
                  ((AV.isBool (AV.bin Go.BinOp.gtr (AV.sat x0 (ys1217.getD 0 default)) (AV.lit (Value.int Go.IntKind.u8 57)))) ∧
                  (((isT (AV.bin Go.BinOp.gtr (AV.sat x0 (ys1217.getD 0 default)) (AV.lit (Value.int Go.IntKind.u8 57)))) →
                    ((AV.flat (AV.bool false)) ∧
                    (fSame (AV.bool false) r))) ∧
                  ((isF (AV.bin Go.BinOp.gtr (AV.sat x0 (ys1217.getD 0 default)) (AV.lit (Value.int Go.IntKind.u8 57)))) →
                    ((AV.binOk Go.BinOp.add (ys1217.getD 0 default) (AV.int 1)) ∧
                    (again1217 [(AV.bin Go.BinOp.add (ys1217.getD 0 default) (AV.int 1))]))))))))))))))) ∧
              ((isF (AV.bin Go.BinOp.gtr (AV.sat x0 (ys1217.getD 0 default)) (AV.lit (Value.int Go.IntKind.u8 90)))) →
                ((AV.isBool (AV.bin Go.BinOp.gtr (AV.sat x0 (ys1217.getD 0 default)) (AV.lit (Value.int Go.IntKind.u8 90)))) ∧
                ((isF (AV.bin Go.BinOp.gtr (AV.sat x0 (ys1217.getD 0 default)) (AV.lit (Value.int Go.IntKind.u8 90)))) ∧
                ((AV.binOk Go.BinOp.add (ys1217.getD 0 default) (AV.int 1)) ∧
                (again1217 [(AV.bin Go.BinOp.add (ys1217.getD 0 default) (AV.int 1))]))))))))))))))))) ∧
          ((isF (AV.bin Go.BinOp.lss (ys1217.getD 0 default) (AV.slen x0))) →
            ((AV.flat (AV.bool true)) ∧
            (fSame (AV.bool true) r))))))))))))))))))) ∧
    ((isF (AV.bin Go.BinOp.geq (AV.sat x0 (AV.int 0)) (AV.lit (Value.int Go.IntKind.u8 48)))) →
      ((AV.isBool (AV.bin Go.BinOp.geq (AV.sat x0 (AV.int 0)) (AV.lit (Value.int Go.IntKind.u8 48)))) ∧
      ((isF (AV.bin Go.BinOp.geq (AV.sat x0 (AV.int 0)) (AV.lit (Value.int Go.IntKind.u8 48)))) ∧
      ((AV.isBool (AV.bin Go.BinOp.gtr (AV.slen x0) (AV.int 8))) ∧
      ((isF (AV.bin Go.BinOp.gtr (AV.slen x0) (AV.int 8))) ∧
      (fLoop 1217 [(AV.int 0)] fun ys1217 again1217 =>
        ((AV.isStr x0) ∧
        ((AV.binOk Go.BinOp.lss (ys1217.getD 0 default) (AV.slen x0)) ∧
        ((AV.isBool (AV.bin Go.BinOp.lss (ys1217.getD 0 default) (AV.slen x0))) ∧
        (((isT (AV.bin Go.BinOp.lss (ys1217.getD 0 default) (AV.slen x0))) →
          ((AV.isStr x0) ∧
          ((AV.sinb x0 (ys1217.getD 0 default)) ∧
          ((AV.binOk Go.BinOp.lss (AV.sat x0 (ys1217.getD 0 default)) (AV.lit (Value.int Go.IntKind.u8 65))) ∧
          ((AV.isBool (AV.bin Go.BinOp.lss (AV.sat x0 (ys1217.getD 0 default)) (AV.lit (Value.int Go.IntKind.u8 65)))) ∧
          (((isT (AV.bin Go.BinOp.lss (AV.sat x0 (ys1217.getD 0 default)) (AV.lit (Value.int Go.IntKind.u8 65)))) →
            ((AV.isBool (AV.bin Go.BinOp.lss (AV.sat x0 (ys1217.getD 0 default)) (AV.lit (Value.int Go.IntKind.u8 65)))) ∧
            ((isT (AV.bin Go.BinOp.lss (AV.sat x0 (ys1217.getD 0 default)) (AV.lit (Value.int Go.IntKind.u8 65)))) ∧
            ((AV.binOk Go.BinOp.lss (AV.sat x0 (ys1217.getD 0 default)) (AV.lit (Value.int Go.IntKind.u8 48))) ∧
            ((AV.isBool (AV.bin Go.BinOp.lss (AV.sat x0 (ys1217.getD 0 default)) (AV.lit (Value.int Go.IntKind.u8 48)))) ∧
            (((isT (AV.bin Go.BinOp.lss (AV.sat x0 (ys1217.getD 0 default)) (AV.lit (Value.int Go.IntKind.u8 48)))) →
              ((AV.isBool (AV.bin Go.BinOp.lss (AV.sat x0 (ys1217.getD 0 default)) (AV.lit (Value.int Go.IntKind.u8 48)))) ∧
              ((isT (AV.bin Go.BinOp.lss (AV.sat x0 (ys1217.getD 0 default)) (AV.lit (Value.int Go.IntKind.u8 48)))) ∧
              ((AV.flat (AV.bool false)) ∧
              (fSame (AV.bool false) r))))) ∧
            ((isF (AV.bin Go.BinOp.lss (AV.sat x0 (ys1217.getD 0 default)) (AV.lit (Value.int Go.IntKind.u8 48)))) →
              ((AV.binOk Go.BinOp.gtr (AV.sat x0 (ys1217.getD 0 default)) (AV.lit (Value.int Go.IntKind.u8 57))) ∧
              ((AV.isBool (AV.bin Go.BinOp.lss (AV.sat x0 (ys1217.getD 0 default)) (AV.lit (Value.int Go.IntKind.u8 48)))) ∧
              ((isF (AV.bin Go.BinOp.lss (AV.sat x0 (ys1217.getD 0 default)) (AV.lit (Value.int Go.IntKind.u8 48)))) ∧
              ((AV.isBool (AV.bin Go.BinOp.gtr (AV.sat x0 (ys1217.getD 0 default)) (AV.lit (Value.int Go.IntKind.u8 57)))) ∧
              (((isT (AV.bin Go.BinOp.gtr (AV.sat x0 (ys1217.getD 0 default)) (AV.lit (Value.int Go.IntKind.u8 57)))) →
                ((AV.flat (AV.bool false)) ∧
                (fSame (AV.bool false) r))) ∧
              ((isF (AV.bin Go.BinOp.gtr (AV.sat x0 (ys1217.getD 0 default)) (AV.lit (Value.int Go.IntKind.u8 57)))) →
                ((AV.binOk Go.BinOp.add (ys1217.getD 0 default) (AV.int 1)) ∧
                (again1217 [(AV.bin Go.BinOp.add (ys1217.getD 0 default) (AV.int 1))]))))))))))))))) ∧
          ((isF (AV.bin Go.BinOp.lss (AV.sat x0 (ys1217.getD 0 default)) (AV.lit (Value.int Go.IntKind.u8 65)))) →
            ((AV.binOk Go.BinOp.gtr (AV.sat x0 (ys1217.getD 0 default)) (AV.lit (Value.int Go.IntKind.u8 90))) ∧
            ((AV.isBool (AV.bin Go.BinOp.lss (AV.sat x0 (ys1217.getD 0 default)) (AV.lit (Value.int Go.IntKind.u8 65)))) ∧
            ((isF (AV.bin Go.BinOp.lss (AV.sat x0 (ys1217.getD 0 default)) (AV.lit (Value.int Go.IntKind.u8 65)))) ∧
            ((AV.isBool (AV.bin Go.BinOp.gtr (AV.sat x0 (ys1217.getD 0 default)) (AV.lit (Value.int Go.IntKind.u8 90)))) ∧
            (((isT (AV.bin Go.BinOp.gtr (AV.sat x0 (ys1217.getD 0 default)) (AV.lit (Value.int Go.IntKind.u8 90)))) →
              ((AV.binOk Go.BinOp.lss (AV.sat x0 (ys1217.getD 0 default)) (AV.lit (Value.int Go.IntKind.u8 48))) ∧
              ((AV.isBool (AV.bin Go.BinOp.lss (AV.sat x0 (ys1217.getD 0 default)) (AV.lit (Value.int Go.IntKind.u8 48)))) ∧
              (((isT (AV.bin Go.BinOp.lss (AV.sat x0 (ys1217.getD 0 default)) (AV.lit (Value.int Go.IntKind.u8 48)))) →
                ((AV.isBool (AV.bin Go.BinOp.lss (AV.sat x0 (ys1217.getD 0 default)) (AV.lit (Value.int Go.IntKind.u8 48)))) ∧
                ((isT (AV.bin Go.BinOp.lss (AV.sat x0 (ys1217.getD 0 default)) (AV.lit (Value.int Go.IntKind.u8 48)))) ∧
                ((AV.isBool (AV.bin Go.BinOp.gtr (AV.sat x0 (ys1217.getD 0 default)) (AV.lit (Value.int Go.IntKind.u8 90)))) ∧
                ((isT (AV.bin Go.BinOp.gtr (AV.sat x0 (ys1217.getD 0 default)) (AV.lit (Value.int Go.IntKind.u8 90)))) ∧
                ((AV.flat (AV.bool false)) ∧
                (fSame (AV.bool false) r))))))) ∧
              ((isF (AV.bin Go.BinOp.lss (AV.sat x0 (ys1217.getD 0 default)) (AV.lit (Value.int Go.IntKind.u8 48)))) →
                ((AV.binOk Go.BinOp.gtr (AV.sat x0 (ys1217.getD 0 default)) (AV.lit (Value.int Go.IntKind.u8 57))) ∧
                ((AV.isBool (AV.bin Go.BinOp.lss (AV.sat x0 (ys1217.getD 0 default)) (AV.lit (Value.int Go.IntKind.u8 48)))) ∧
                ((isF (AV.bin Go.BinOp.lss (AV.sat x0 (ys1217.getD 0 default)) (AV.lit (Value.int Go.IntKind.u8 48)))) ∧
                ((AV.isBool (AV.bin Go.BinOp.gtr (AV.sat x0 (ys1217.getD 0 default)) (AV.lit (Value.int Go.IntKind.u8 90)))) ∧
                ((isT (AV.bin Go.BinOp.gtr (AV.sat x0 (ys1217.getD 0 default)) (AV.lit (Value.int Go.IntKind.u8 90)))) ∧
                ((AV.isBool (AV.bin Go.BinOp.gtr (AV.sat x0 (ys1217.getD 0 default)) (AV.lit (Value.int Go.IntKind.u8 57)))) ∧
                (((isT (AV.bin Go.BinOp.gtr (AV.sat x0 (ys1217.getD 0 default)) (AV.lit (Value.int Go.IntKind.u8 57)))) →
                  ((AV.flat (AV.bool false)) ∧
                  (fSame (AV.bool false) r))) ∧
                ((isF (AV.bin Go.BinOp.gtr (AV.sat x0 (ys1217.getD 0 default)) (AV.lit (Value.int Go.IntKind.u8 57)))) →
                  ((AV.binOk Go.BinOp.add (ys1217.getD 0 default) (AV.int 1)) ∧
                  (again1217 [(AV.bin Go.BinOp.add (ys1217.getD 0 default) (AV.int 1))]))))))))))))))) ∧
            ((isF (AV.bin Go.BinOp.gtr (AV.sat x0 (ys1217.getD 0 default)) (AV.lit (Value.int Go.IntKind.u8 90)))) →
              ((AV.isBool (AV.bin Go.BinOp.gtr (AV.sat x0 (ys1217.getD 0 default)) (AV.lit (Value.int Go.IntKind.u8 90)))) ∧
              ((isF (AV.bin Go.BinOp.gtr (AV.sat x0 (ys1217.getD 0 default)) (AV.lit (Value.int Go.IntKind.u8 90)))) ∧
              ((AV.binOk Go.BinOp.add (ys1217.getD 0 default) (AV.int 1)) ∧
              (again1217 [(AV.bin Go.BinOp.add (ys1217.getD 0 default) (AV.int 1))]))))))))))))))))) ∧
        ((isF (AV.bin Go.BinOp.lss (ys1217.getD 0 default) (AV.slen x0))) →
          ((AV.flat (AV.bool true)) ∧
          (fSame (AV.bool true) r)))))))))))))))))))))))))))))) := by kernel_rfl
end NameF
end Go.Proofs.Ytpidhccaoponfaa
/- Names. -/
namespace Go.Proofs.Ytpidhccaoponfaa
open Go.RowKit
set_option linter.unusedVariables false
set_option linter.unusedSimpArgs false
set_option maxRecDepth 100000
def up (c : UInt8) : Prop := 65 ≤ c.toNat ∧ c.toNat ≤ 90
def dig (c : UInt8) : Prop := 48 ≤ c.toNat ∧ c.toNat ≤ 57
instance (c : UInt8) : Decidable (up c) := inferInstanceAs (Decidable (_ ∧ _))
instance (c : UInt8) : Decidable (dig c) := inferInstanceAs (Decidable (_ ∧ _))
def nameG : Nat → List UInt8 → Bool
  | _, [] => true
  | n, x :: rest => decide (up x ∨ (0 < n ∧ dig x)) && nameG (n + 1) rest
/-- A name: one to eight letters and digits, no digit at its head. -/
def isName (s : ByteArray) : Bool := decide (1 ≤ s.size ∧ s.size ≤ 8) && nameG 0 (key s)
theorem nameG_all : ∀ (n : Nat) (l : List UInt8), nameG (n + 1) l = l.all fun c => decide (up c ∨ dig c)
  | _, [] => rfl
  | n, x :: l => by simp [nameG, nameG_all (n + 1) l]
theorem nameG_head {x : UInt8} {l : List UInt8} (h : ¬ dig x) : nameG 0 (x :: l) = (x :: l).all fun c => decide (up c ∨ dig c) := by
  simp [nameG, nameG_all, h]
@[simp] theorem key_len (s : ByteArray) : (key s).length = s.size := Array.length_toList
def encB (c : UInt8) : List AV := [.lit (.int .u8 c.toNat)]
theorem bytes_lst (s : ByteArray) : AV.bytes (.lit (.string s)) = lst 1 encB (key s) := rfl
theorem sat_at {s : ByteArray} {n : Nat} {c : UInt8} {k : IntKind} (h : (key s)[n]? = some c) : AV.sat (.lit (.string s)) (.lit (.int k (n : Nat))) = .lit (.int .u8 c.toNat) := by
  have hn : n < s.data.size := by have := (List.getElem?_eq_some_iff.1 h).1; rwa [Array.length_toList] at this
  have hc : s.data[n] = c := by have := (List.getElem?_eq_some_iff.1 h).2; simpa [key] using this
  have : s[n]? = some c := by
    rw [getElem?_pos s n hn]
    exact congrArg some hc
  unfold AV.sat
  simp [this]
theorem isName_eq (s : ByteArray) (h1 : 1 ≤ s.size) (h2 : s.size ≤ 8) : isName s = nameG 0 (key s) := by
  unfold isName; rw [decide_eq_true ⟨h1, h2⟩, Bool.true_and]
theorem isName_no (s : ByteArray) (h : ¬ (1 ≤ s.size ∧ s.size ≤ 8)) : isName s = false := by
  unfold isName; rw [decide_eq_false h, Bool.false_and]
theorem name_fn (s : ByteArray) : Fn Try.prog 30 [.string s] .sc (.bool (isName s)) := by
  refine fn_run mixed 0 (Γ := NameF.Γ) (ann := NameF.ann) Try.func30 rfl Try.call30 ((NameF.name_form _ _).mpr ?_)
  simp [bytes_lst, AV.bytesOk]
  refine ⟨fun h => ⟨h, ?_⟩, fun h => ⟨h, fun h2 => ?_, fun h2 => ⟨by omega, ?_⟩⟩⟩
  · exact isName_no s (by omega)
  · exact isName_no s (by omega)
  · have hE := isName_eq s (by omega) (by omega)
    refine loop_list (σ := Unit) (key s) (fun n _ => [.int (n : Nat)]) (fun n rest _ => isName s = nameG n rest) () rfl hE ?_ ?_
    · intro n x rest _ K hx hr hn hg hK
      rw [nameG] at hg
      rw [key_len] at hn
      have bad : ¬ (up x ∨ (0 < n ∧ dig x)) → isName s = false := fun h => by rw [hg, decide_eq_false h]; rfl
      have good : (up x ∨ (0 < n ∧ dig x)) → K [.int ((n : Nat) + 1)] := fun h => hK _ () (by simp) (by rw [hg, decide_eq_true h, Bool.true_and])
      unfold up dig at bad good
      simp [hn, lst_at hx, encB]
      (repeat' (first | exact trivial | (with_reducible intro hw; (try simp (disch := omega) only [wrap64] at hw); first | (exfalso; omega; done) | skip) | (with_reducible refine And.intro ?_ ?_) | omega | assumption))
      all_goals (first | exact bad (by omega) | (rw [wrap64 (by omega) (by omega)]; exact good (by omega)))
    · intro _ K hg
      rw [key_len]
      simp [hg, nameG]
theorem isname_fn (s : ByteArray) : Fn Try.prog 12 [.string s] .sc (.bool (isName s)) := by
  refine fn_run mixed 0 (Γ := NameF.Γ) (ann := NameF.ann) Try.func12 rfl Try.call12 ((NameF.isname_form _ _).mpr ?_)
  have hem : s.size = 0 ↔ s = ⟨#[]⟩ := ⟨fun h => ByteArray.ext (Array.size_eq_zero_iff.1 h), fun h => by rw [h]; rfl⟩
  by_cases h0 : s = ⟨#[]⟩
  · simp [h0]
    exact isName_no _ (by decide)
  · have hs0 : 0 < s.size := by have := mt hem.1 h0; omega
    obtain ⟨x, rest, hk⟩ : ∃ x rest, key s = x :: rest := by
      cases hk : key s with
      | nil => have := key_len s; rw [hk] at this; simp at this; omega
      | cons x rest => exact ⟨x, rest, rfl⟩
    have hx0 : AV.sat (.lit (.string s)) (.lit (.int .i64 0)) = .lit (.int .u8 x.toNat) := sat_at (n := 0) (by rw [hk]; rfl)
    simp [h0, hx0, hs0]
    refine ⟨fun h => ⟨h, isName_no s (by omega)⟩, fun h => ?_⟩
    have hE := isName_eq s hs0 (by omega)
    (repeat' (first | exact trivial | (with_reducible intro hw; (try simp (disch := omega) only [wrap64] at hw); first | (exfalso; omega; done) | skip) | (with_reducible refine And.intro ?_ ?_) | omega | assumption))
    all_goals first
      | (rw [hE, hk, nameG, decide_eq_false (by unfold up dig; omega)]; rfl)
      | (have hnd : ¬ dig x := by unfold dig; omega
         have hE2 : isName s = (key s).all fun c => decide (up c ∨ dig c) := by rw [hE, hk, nameG_head hnd]
         refine loop_list (σ := Unit) (key s) (fun n _ => [.int (n : Nat)]) (fun n rest _ => isName s = rest.all fun c => decide (up c ∨ dig c)) () rfl hE2 ?_ ?_
         · intro n y rest' _ K hy hr hn hg hK
           rw [List.all_cons] at hg
           rw [key_len] at hn
           have bad : ¬ (up y ∨ dig y) → isName s = false := fun h => by rw [hg, decide_eq_false h]; rfl
           have good : (up y ∨ dig y) → K [.int ((n : Nat) + 1)] := fun h => hK _ () (by simp) (by rw [hg, decide_eq_true h, Bool.true_and])
           unfold up dig at bad good
           simp [hn, sat_at hy]
           (repeat' (first | exact trivial | (with_reducible intro hw; (try simp (disch := omega) only [wrap64] at hw); first | (exfalso; omega; done) | skip) | (with_reducible refine And.intro ?_ ?_) | omega | assumption))
           all_goals (first | exact bad (by omega) | (rw [wrap64 (by omega) (by omega)]; exact good (by omega)))
         · intro _ K hg
           rw [key_len]
           simp [hg])
end Go.Proofs.Ytpidhccaoponfaa
/- slices.SortFunc over plain values: the shelf's contract, met by a comparison's contract. -/
namespace Go.Proofs.Ytpidhccaoponfaa
open Go.RowKit Go.Shelf Go.Sort
set_option linter.unusedVariables false
set_option linter.unusedSimpArgs false
theorem grow_of_below {w w' : World} (h : Go.RowKit.Below w.heap.size w w') (hd : w.drawn ≤ w'.drawn) : ∃ q os, w' = grow (w.drewN q) os := by
  refine ⟨w'.drawn - w.drawn, w'.heap.extract w.heap.size w'.heap.size, ?_⟩
  have e1 : w'.heap = w.heap ++ w'.heap.extract w.heap.size w'.heap.size := by
    apply Array.ext_getElem?
    intro k
    rw [Array.getElem?_append]
    split
    · rename_i hk; exact h.block k hk
    · rename_i hk
      rw [Array.getElem?_extract]
      have := h.size
      by_cases hk2 : k < w'.heap.size
      · rw [if_pos (by omega)]; congr 1; omega
      · rw [if_neg (by omega)]; exact Array.getElem?_eq_none (by omega)
  have e2 : w.drawn + (w'.drawn - w.drawn) = w'.drawn := by omega
  have h1 := h.os; have h2 := h.tape; have h3 := h.output
  cases w'; cases w
  simp only at *
  subst h1 h2 h3
  unfold grow
  simp only [World.drewN] at *
  rw [e2]
  congr 1
theorem putRow_block (w : World) (G : Nat) (F : Array Value) {b : Nat} (hb : b ≠ G) : (putRow id w G 0 F).heap[b]? = w.heap[b]? := by
  unfold putRow mapBlock
  simp only [Array.getElem?_modify]
  rw [if_neg (fun e => hb e.symm)]
theorem putRow_at (w : World) (G : Nat) (F : Array Value) {c : Array Value} {e : TypeId} {fr : Nat × Nat} (h : w.heap[G]? = some (.cells c e fr)) : (putRow id w G 0 F).heap[G]? = some (.cells (putCells id 0 F c) e fr) := by
  unfold putRow mapBlock
  simp only [Array.getElem?_modify, if_true, h, Option.map_some, onCells]
theorem sortW_block {α : Type} [Inhabited α] (enc : α → List Value) (k : Nat) (w : World) (G m : Nat) (D : Array α) (os : Array Obj) {b : Nat} (hb : b ≠ G) (hlt : b < w.heap.size) : (sortWorldK enc k w G 0 m D os).heap[b]? = w.heap[b]? := by
  unfold sortWorldK grow
  have hsz : (putRowK enc k (Go.Sort.ahead w m) G 0 D).heap.size = w.heap.size := size_putRow id _ G 0 _
  simp only [Array.getElem?_append]
  rw [if_pos (by rw [hsz]; exact hlt)]
  exact putRow_block _ _ _ hb
theorem sortW_at {α : Type} [Inhabited α] (enc : α → List Value) (k : Nat) (w : World) (G m : Nat) (D : Array α) (os : Array Obj) {c : Array Value} {e : TypeId} {fr : Nat × Nat} (h : w.heap[G]? = some (.cells c e fr)) : (sortWorldK enc k w G 0 m D os).heap[G]? = some (.cells (putCells id 0 (flatK enc k D) c) e fr) := by
  unfold sortWorldK grow
  have hsz : (putRowK enc k (Go.Sort.ahead w m) G 0 D).heap.size = w.heap.size := size_putRow id _ G 0 _
  simp only [Array.getElem?_append]
  rw [if_pos (by rw [hsz]; exact (Array.getElem?_eq_some_iff.1 h).1)]
  exact putRow_at _ _ _ h
theorem sortW_size {α : Type} [Inhabited α] (enc : α → List Value) (k : Nat) (w : World) (G m : Nat) (D : Array α) (os : Array Obj) : w.heap.size ≤ (sortWorldK enc k w G 0 m D os).heap.size := by
  have hsz : (putRowK enc k (Go.Sort.ahead w m) G 0 D).heap.size = w.heap.size := size_putRow id _ G 0 _
  unfold sortWorldK
  rw [size_grow, hsz]; omega
/-- An element of the row: as a plain value, and as its cells. -/
def Elt (w : World) (okc : Nat → Prop) (k : Nat) (d : List (List AV)) : Type := { p : List AV × List Value // p.1 ∈ d ∧ p.2.length = k ∧ (∀ v ∈ p.2, v.oneCell' = true) ∧ p.1.length = k ∧ ∀ j, j < k → RV w okc (p.1.getD j default) (p.2.getD j undef) }
/-- **slices.SortFunc**: with a comparison that orders the elements, and parts whatever two that are not one, the row is the sorted list. -/
theorem sortU {P : Program} {ρ : Ren} (L : SlLaysF0.n6 P ρ) {k : Nat} (aE : ∀ w, (isAgg (ρ.t 24)).run P w = .ok true w) (zE : ∀ w, (Go.sizeOf (ρ.t 24)).run P w = .ok k w) {g : FuncId} {cs : List AV} {cf : List AV → List AV → Int} {d s : List (List AV)} (hk0 : 0 < k) (eg : Ent P g)
    (hcmp : ∀ x ∈ d, ∀ y ∈ d, Fn P g ([.agg x, .agg y] ++ cs) .sc (.int (cf x y)))
    (hirr : ∀ x ∈ d, ¬ cf x x < 0) (htr : ∀ x ∈ d, ∀ y ∈ d, ∀ z ∈ d, cf x y < 0 → cf y z < 0 → cf x z < 0) (hntr : ∀ x ∈ d, ∀ y ∈ d, ∀ z ∈ d, ¬ cf x y < 0 → ¬ cf y z < 0 → ¬ cf x z < 0) (hT : ∀ x ∈ d, ∀ y ∈ d, ¬ cf x y < 0 → ¬ cf y x < 0 → x = y)
    (hbig : d.length < 4611686018427387904) (hp : s.Perm d) (hs : s.Pairwise fun x y => ¬ cf y x < 0) :
    FnU P (ρ.f 6) (ρ.t 24) k (.sl k d) [.clo g cs] false (.sl k s) := by
  refine ⟨fun args W => L.f6.enters rfl args W, ?_⟩
  intro w ok B okc v0 cargs hrow hokc hok hB hgl hsz hargs
  have hrow0 := hrow
  obtain ⟨L', xs, hL', _, hlen, ho, hone, hv⟩ := hrow
  injection hL' with _ hL'
  subst hL'
  obtain ⟨u, rfl⟩ : ∃ u, cargs = #[u] := ⟨cargs.getD 0 undef, by
    have : cargs.size = 1 := hsz
    apply Array.ext_getElem?
    intro i
    by_cases hi : i < 1
    · obtain rfl : i = 0 := by omega
      simp [this]
    · rw [Array.getElem?_eq_none (by omega), Array.getElem?_eq_none (by simp; omega)]⟩
  have hu : RV w ok (.clo g cs) u := hargs 0 (by simp)
  cases hu with
  | clo _ _ vs hvl hvs =>
  have hnone : d = [] → ∀ p cap, v0 = .slice p 0 cap → Calls P (ρ.f 6) (#[v0] ++ #[.func (.func g) #[] vs]) w fun e' w' => ∃ v, e' = .returned (if false then v else .tuple #[]) ∧ w.grownBy w' v0.ownBlock ∧ RRow w' B (ρ.t 24) k okc (.sl k s) v ∧ (false = false → v = v0) ∧ (∀ g, v.ownBlock = some g → v0.ownBlock = some g ∨ w.heap.size ≤ g) ∧ w.drawn ≤ w'.drawn := by
    intro h0 p cap e
    have hs0 : s = d := by rw [h0] at hp ⊢; exact hp.eq_nil
    rw [e]
    refine (AnyF.slices_SortFunc_none (P := P) (ρ := ρ) L p cap (.func (.func g) #[] vs) w).mono ?_
    rintro e' w' ⟨rfl, rfl⟩
    exact ⟨.slice p 0 cap, rfl, ⟨rfl, rfl, rfl, Nat.le_refl _, fun _ _ _ => rfl⟩, by rw [hs0, ← e]; exact hrow0, fun _ => rfl, fun g hg => .inl hg, Nat.le_refl _⟩
  rcases ho.2 with ⟨e0, h0⟩ | ⟨G, cap, cur, e0, hBG, hG, hnc, hcm, hcs, htk⟩
  · exact hnone (List.eq_nil_of_length_eq_zero h0) none 0 e0
  by_cases hd0 : d = []
  · exact hnone hd0 _ cap (by rw [e0, hd0]; rfl)
  have hn0 : 0 < d.length := List.length_pos_iff.2 hd0
  have hxl : xs.length = d.length * k := ho.1
  have hget : ∀ i j, i < d.length → j < k → i * k + j < xs.length := fun i j hi hj => by
    rw [hxl]
    have : (i + 1) * k ≤ d.length * k := Nat.mul_le_mul_right _ hi
    rw [Nat.add_mul] at this; omega
  have hslice : ∀ i, i < d.length → ((xs.drop (i * k)).take k).length = k := fun i hi => by
    rw [List.length_take, List.length_drop, hxl]
    have : (i + 1) * k ≤ d.length * k := Nat.mul_le_mul_right _ hi
    rw [Nat.add_mul] at this; omega
  have hsl2 : ∀ i j, j < k → ((xs.drop (i * k)).take k).getD j undef = xs.getD (i * k + j) undef := fun i j hj => by
    simp only [List.getD_eq_getElem?_getD, List.getElem?_take, hj, if_true, List.getElem?_drop]
  let mk : (i : Fin d.length) → Elt w okc k d := fun i => ⟨(d[i], (xs.drop (i * k)).take k), List.getElem_mem _, hslice i i.2, fun v hv => hone v (List.mem_of_mem_drop (List.mem_of_mem_take hv)), hlen _ (List.getElem_mem _), fun j hj => by
    show RV w okc (d[i].getD j default) (((xs.drop (i * k)).take k).getD j undef)
    rw [hsl2 _ _ hj]
    have := hv i j i.2 hj
    have e : d.getD i [] = d[i] := by rw [List.getD_eq_getElem?_getD, List.getElem?_eq_getElem i.2]; rfl
    unfold gt2 at this
    rw [e] at this
    exact this⟩
  haveI : Inhabited (Elt w okc k d) := ⟨mk ⟨0, hn0⟩⟩
  let D : Array (Elt w okc k d) := (List.ofFn mk).toArray
  have hDs : D.size = d.length := by simp [D]
  have hDg : ∀ i (hi : i < d.length), D[i]! = mk ⟨i, hi⟩ := fun i hi => by
    rw [getElem!_pos D i (by rw [hDs]; exact hi)]
    simp [D]
  let enc : Elt w okc k d → List Value := fun p => p.1.2
  have hflat : ∀ t, t < d.length * k → (flatK enc k D)[t]! = xs.getD t undef := fun t ht => by
    have hq : t / k < d.length := Nat.div_lt_of_lt_mul (by rw [Nat.mul_comm]; exact ht)
    have hr : t % k < k := Nat.mod_lt _ hk0
    rw [get_flatK _ _ _ _ (by rw [hDs]; exact ht), hDg _ hq]
    show ((xs.drop (t / k * k)).take k)[t % k]! = _
    have e1 := hsl2 (t / k) (t % k) hr
    have e2 : t / k * k + t % k = t := by rw [Nat.mul_comm]; exact Nat.div_add_mod t k
    rw [e2] at e1
    rw [← e1, List.getD_eq_getElem?_getD, getElem!_pos _ _ (by rw [hslice _ hq]; exact hr), List.getElem?_eq_getElem (by rw [hslice _ hq]; exact hr)]
    rfl
  have hcurget : ∀ t, t < d.length * k → cur[t]? = some (xs.getD t undef) := fun t ht => by
    have h1 : (cur.toList.take (d.length * k))[t]? = xs[t]? := by rw [htk]
    rw [List.getElem?_take, if_pos ht] at h1
    rw [← Array.getElem?_toList, h1, List.getD_eq_getElem?_getD, List.getElem?_eq_getElem (by rw [hxl]; exact ht)]
    rfl
  have hGlt : G < w.heap.size := (Array.getElem?_eq_some_iff.1 hG).1
  have hH : HoldsK enc k w G 0 D := fun t ht => by
    rw [size_flatK, hDs] at ht
    rw [hflat t ht, Nat.zero_add]
    refine ⟨?_, ?_⟩
    · rw [cell_of_row w G t cur (ρ.t 24) (0, 0) hG, hcurget t ht]; rfl
    · simp [World.frozen?, hG]
  let cf' : Elt w okc k d → Elt w okc k d → Int := fun p q => cf p.1.1 q.1.1
  have hO : SWO (ltOf cf') := ⟨fun x => decide_eq_false (hirr _ x.2.1), fun x y z h1 h2 => decide_eq_true (htr _ x.2.1 _ y.2.1 _ z.2.1 (of_decide_eq_true h1) (of_decide_eq_true h2)), fun x y z h1 h2 => decide_eq_false (hntr _ x.2.1 _ y.2.1 _ z.2.1 (of_decide_eq_false h1) (of_decide_eq_false h2))⟩
  have hGok : ∀ b, okc b ∨ ok b → b ≠ G ∧ b < w.heap.size := fun b hb => by
    rcases hb with hb | hb
    · exact ⟨fun e => (hokc b hb).1 (by rw [e0, e]; rfl), (hokc b hb).2⟩
    · exact ⟨fun e => (hok b hb).1 (by rw [e0, e]; rfl), (hok b hb).2⟩
  have hCmp : CmpLays P g vs enc k cf' G 0 D.size w := by
    intro m os dk hdk x y
    have hfn := (hcmp _ x.2.1 _ y.2.1).2 (sortWorldK enc k w G 0 m dk os) (fun b => okc b ∨ ok b) (#[.agg (enc x).toArray, .agg (enc y).toArray] ++ vs) (fun b hb => Nat.lt_of_lt_of_le (hGok b hb).2 (sortW_size _ _ _ _ _ _ _)) ⟨fun p hp => ?_, fun p hp => by simp [globI] at hp⟩ (by simp [hvl]; omega) (fun i hi => ?_)
    · refine hfn.mono ?_
      rintro e w' ⟨v, rfl, hb, hR, _, hdr⟩
      have hv' : RV w' noBlock (.int (cf' x y)) v := hR
      obtain rfl := RV.lit_iff.1 hv'
      exact ⟨rfl, grow_of_below hb hdr⟩
    · obtain ⟨q1, q2, q3, x', y', q4⟩ := hgl.1 p hp
      refine ⟨Nat.lt_of_lt_of_le q1 (sortW_size _ _ _ _ _ _ _), .inr q2, fun i hi => ⟨?_, (q3 i hi).2⟩, x', y', ?_⟩
      · rw [← (q3 i hi).1]
        exact World.cell?_of_block (sortW_block _ _ _ _ _ _ _ (hGok _ (.inr q2)).1 q1)
      · rw [← q4]
        exact sortW_block _ _ _ _ _ _ _ (hGok _ (.inr q2)).1 q1
    · have hag : ∀ z : Elt w okc k d, RV (sortWorldK enc k w G 0 m dk os) (fun b => okc b ∨ ok b) (.agg z.1.1) (.agg (enc z).toArray) := fun z => by
        obtain ⟨p, q1, q2, q3, q4, q5⟩ := z
        refine .agg _ _ (by show p.2.toArray.size = _; simp [q2, q4]) (fun j hj => ?_) (fun j hj => ?_)
        · have hj2 : j < p.2.length := by rw [q2, ← q4]; exact hj
          show (p.2.toArray.getD j undef).oneCell' = true
          rw [Array.getD_eq_getD_getElem?]
          simp only [List.getElem?_toArray, List.getElem?_eq_getElem hj2, Option.getD_some]
          exact q3 _ (List.getElem_mem hj2)
        · have e2 : p.2.toArray.getD j undef = p.2.getD j undef := by rw [Array.getD_eq_getD_getElem?, List.getD_eq_getElem?_getD]; simp
          show RV _ _ _ (p.2.toArray.getD j undef)
          rw [e2]
          exact (q5 j (q4 ▸ hj)).mono fun b hb hlt => ⟨.inl hb, sortW_block _ _ _ _ _ _ _ (hGok b (.inl hb)).1 hlt⟩
      rcases i with _ | _ | i
      · have e2 : (#[Value.agg (enc x).toArray, Value.agg (enc y).toArray] ++ vs).getD 0 undef = .agg (enc x).toArray := by simp [Array.getElem?_append]
        rw [e2]; exact hag x
      · have e2 : (#[Value.agg (enc x).toArray, Value.agg (enc y).toArray] ++ vs).getD (0 + 1) undef = .agg (enc y).toArray := by simp [Array.getElem?_append]
        rw [e2]; exact hag y
      · have hi' : i < cs.length := by simpa using hi
        have e1 : ([AV.agg x.1.1, AV.agg y.1.1] ++ cs).getD (i + 2) default = cs.getD i default := by simp
        have e2 : (#[Value.agg (enc x).toArray, Value.agg (enc y).toArray] ++ vs).getD (i + 2) undef = vs.getD i undef := by
          simp only [Array.getD_eq_getD_getElem?, Array.getElem?_append]
          rw [if_neg (by simp)]
          simp
        rw [e1, e2]
        exact (hvs i hi').mono fun b hb hlt => ⟨.inr hb, sortW_block _ _ _ _ _ _ _ (hGok b (.inr hb)).1 hlt⟩
  have hcon := AnyQ.slices_SortFunc (P := P) (ρ := ρ) L k aE zE enc (fun p => p.2.2.1) (fun p v hv => p.2.2.2.1 v hv) cf' hO g vs G 0 cap D w eg hCmp hH hGlt (by rw [hDs]; exact hbig)
  rw [hDs] at hcon
  rw [e0]
  refine hcon.mono ?_
  rintro e' w' ⟨rfl, D', n, os, ⟨hz, _, hpm⟩, hsd, rfl⟩
  rw [hDs] at hz
  have e1 : D'.extract 0 d.length = D' := by rw [← hz]; exact Array.extract_size
  have e2 : D.extract 0 d.length = D := by rw [← hDs]; exact Array.extract_size
  rw [e1, e2] at hpm
  have hDmap : D.toList.map (fun p => p.1.1) = d := by
    simp only [D, List.map_ofFn]
    apply List.ext_getElem
    · simp
    · intro i h1 h2
      simp [mk]
      rfl
  have hsm : D'.toList.map (fun p => p.1.1) = s := by
    have hp1 : (D'.toList.map fun p => p.1.1).Perm d := (hpm.map fun p => p.1.1).trans (List.Perm.of_eq hDmap)
    refine List.Perm.eq_of_pairwise (le := fun x y => ¬ cf y x < 0) ?_ ?_ hs (hp1.trans hp.symm)
    · intro a b ha hb h1 h2
      exact hT a (hp1.mem_iff.1 ha) b (hp.mem_iff.1 hb) h2 h1
    · rw [List.pairwise_map, List.pairwise_iff_getElem]
      intro i j hi hj hij
      have hi' : i < D'.size := by simpa using hi
      have hj' : j < D'.size := by simpa using hj
      have := hsd i j (Nat.zero_le _) hij (by omega)
      rw [getElem!_pos D' j hj', getElem!_pos D' i hi'] at this
      exact of_decide_eq_false this
  have hsl : s.length = d.length := hp.length_eq
  refine ⟨.slice (some ⟨G, 0, none⟩) d.length cap, rfl, ⟨rfl, rfl, rfl, sortW_size _ _ _ _ _ _ _, fun b hb hne => sortW_block _ _ _ _ _ _ _ (fun e => hne (by rw [e]; rfl)) hb⟩, ?_, fun _ => rfl, fun b hb => .inl hb, by show w.drawn ≤ w.drawn + n; omega⟩
  have hD'g : ∀ i (hi : i < d.length), (s.getD i []) = (D'[i]!).1.1 ∧ s[i]? = some (D'[i]!).1.1 := fun i hi => by
    have : s[i]? = some (D'[i]!).1.1 := by
      rw [← hsm, List.getElem?_map, Array.getElem?_toList, Array.getElem?_eq_getElem (by omega), getElem!_pos D' i (by omega)]; rfl
    exact ⟨by rw [List.getD_eq_getElem?_getD, this]; rfl, this⟩
  refine ⟨s, (flatK enc k D').toList, rfl, hk0, fun y hy => hlen y (hp.mem_iff.1 hy), ⟨by simp [hz, hsl], .inr ⟨G, cap, _, by rw [hsl], hBG, sortW_at _ _ _ _ _ _ _ hG, by rw [hsl]; exact hnc, hcm, by simp [putCells, hcs], ?_⟩⟩, fun v hv' => ?_, fun i j hi hj => ?_⟩
  · apply List.ext_getElem?
    intro t
    rw [List.getElem?_take, hsl]
    split
    · rename_i ht
      have hlt : t < cur.size := by have := hcurget t ht; exact (Array.getElem?_eq_some_iff.1 this).1
      rw [Array.getElem?_toList, Array.getElem?_toList]
      simp only [putCells, Array.getElem?_mapIdx, Array.getElem?_eq_getElem hlt, Option.map_some]
      rw [if_pos ⟨Nat.zero_le _, by rw [Nat.zero_add, size_flatK, hz]; exact ht⟩, Nat.sub_zero, getElem!_pos _ _ (by rw [size_flatK, hz]; exact ht), Array.getElem?_eq_getElem (by rw [size_flatK, hz]; exact ht)]
      rfl
    · rename_i ht
      rw [List.getElem?_eq_none]
      rw [Array.length_toList, size_flatK, hz]; omega
  · rw [Array.mem_toList_iff] at hv'
    obtain ⟨t, ht, rfl⟩ := Array.mem_iff_getElem.1 hv'
    rw [size_flatK, hz] at ht
    have hr : t % k < k := Nat.mod_lt _ hk0
    have := get_flatK enc k D' t (by rw [hz]; exact ht)
    rw [getElem!_pos _ _ (by rw [size_flatK, hz]; exact ht)] at this
    rw [this]
    have hlt : t % k < (enc D'[t / k]!).length := by show _ < (D'[t / k]!).1.2.length; rw [(D'[t / k]!).2.2.1]; exact hr
    rw [getElem!_pos (enc D'[t / k]!) (t % k) hlt]
    exact (D'[t / k]!).2.2.2.1 _ (List.getElem_mem _)
  · rw [hsl] at hi
    have hlt : i * k + j < d.length * k := by have := hget i j hi hj; rwa [hxl] at this
    have e3 : (flatK enc k D').toList.getD (i * k + j) undef = (D'[i]!).1.2.getD j undef := by
      have hq : (i * k + j) / k = i := by rw [Nat.add_comm, Nat.add_mul_div_right _ _ hk0, Nat.div_eq_of_lt hj]; omega
      have hr : (i * k + j) % k = j := by rw [Nat.add_comm, Nat.add_mul_mod_self_right, Nat.mod_eq_of_lt hj]
      have h1 := get_flatK enc k D' (i * k + j) (by rw [hz]; exact hlt)
      rw [hq, hr] at h1
      rw [List.getD_eq_getElem?_getD, Array.getElem?_toList, Array.getElem?_eq_getElem (by rw [size_flatK, hz]; exact hlt)]
      rw [getElem!_pos _ _ (by rw [size_flatK, hz]; exact hlt)] at h1
      simp only [Option.getD_some]
      rw [h1]
      have hlt2 : j < (D'[i]!).1.2.length := by rw [(D'[i]!).2.2.1]; exact hj
      show ((D'[i]!).1.2)[j]! = _
      rw [getElem!_pos (D'[i]!).1.2 j hlt2, List.getD_eq_getElem?_getD, List.getElem?_eq_getElem hlt2]; rfl
    rw [e3]
    unfold gt2
    rw [(hD'g i hi).1]
    exact ((D'[i]!).2.2.2.2.2 j hj).mono fun b hb hlt => ⟨hb, sortW_block _ _ _ _ _ _ _ (hGok b (.inl hb)).1 hlt⟩
end Go.Proofs.Ytpidhccaoponfaa
/-
  DERIVED: THE SHELF's CONTRACTS AT THIS DUMP, IN PLAIN WORDS (tools/lay-plain.mjs out of 'YtpidhccaoponfaaSortTry.lean', which tools/lay-shelf.mjs wrote): THE SAME DECLARATIONS UNDER THE SAME NAMES: 'import', 'namespace', 'open', 'def', 'theorem' AND NOTHING ELSE: no command of the shelf's: FOR A HAND-IN. Each laying: the table of numbers ('.._ren') and one theorem, a field a fact of the dump's own or the kernel's comparison; each contract: ONE APPLICATION.
-/
namespace Go.Proofs.Ytpidhccaoponfaa
open Go.Shelf
def sortCg_ren : Go.Shelf.Ren := ⟨fun | 6 => 41 | 15 => 49 | 14 => 51 | 28 => 62 | 29 => 63 | 20 => 64 | 21 => 65 | 22 => 66 | 23 => 67 | 24 => 68 | 25 => 69 | 26 => 70 | 27 => 71 | 46 => 79 | 47 => 74 | 48 => 75 | 49 => 80 | 50 => 81 | 57 => 83 | n => n, fun | 22 => 22 | 24 => 53 | 25 => 67 | 3 => 3 | 39 => 72 | 0 => 0 | 53 => 85 | 55 => 87 | 4 => 4 | 46 => 77 | 45 => 76 | 50 => 82 | 5 => 5 | 9 => 9 | 66 => 93 | 70 => 97 | 76 => 101 | 77 => 102 | n => n, fun | n => n⟩
theorem sortCg : Go.Proofs.SlLaysF0.n6 Try.prog sortCg_ren := {
  mixed := by kernel_rfl
  f6 := ⟨Try.f41.name, by decide, Try.func41.trans (congrArg some (by kernel_rfl))⟩
  f14 := ⟨Try.f51.name, by decide, Try.func51.trans (congrArg some (by kernel_rfl))⟩
  f15 := Try.func49.trans (congrArg some (by kernel_rfl))
  f20 := ⟨Try.f64.name, by decide, Try.func64.trans (congrArg some (by kernel_rfl))⟩
  f21 := ⟨Try.f65.name, by decide, Try.func65.trans (congrArg some (by kernel_rfl))⟩
  f22 := ⟨Try.f66.name, by decide, Try.func66.trans (congrArg some (by kernel_rfl))⟩
  f23 := ⟨Try.f67.name, by decide, Try.func67.trans (congrArg some (by kernel_rfl))⟩
  f24 := ⟨Try.f68.name, by decide, Try.func68.trans (congrArg some (by kernel_rfl))⟩
  f25 := ⟨Try.f69.name, by decide, Try.func69.trans (congrArg some (by kernel_rfl))⟩
  f26 := ⟨Try.f70.name, by decide, Try.func70.trans (congrArg some (by kernel_rfl))⟩
  f27 := ⟨Try.f71.name, by decide, Try.func71.trans (congrArg some (by kernel_rfl))⟩
  f28 := Try.func62.trans (congrArg some (by kernel_rfl))
  f29 := Try.func63.trans (congrArg some (by kernel_rfl))
  f46 := ⟨Try.f79.name, by decide, Try.func79.trans (congrArg some (by kernel_rfl))⟩
  f47 := Try.func74.trans (congrArg some (by kernel_rfl))
  f48 := Try.func75.trans (congrArg some (by kernel_rfl))
  f49 := ⟨Try.f80.name, by decide, Try.func80.trans (congrArg some (by kernel_rfl))⟩
  f50 := ⟨Try.f81.name, by decide, Try.func81.trans (congrArg some (by kernel_rfl))⟩
  f57 := ⟨Try.f83.name, by decide, Try.func83.trans (congrArg some (by kernel_rfl))⟩
  t0 := Try.underlying0
  a0 := Try.isAgg0
  z0 := Try.sizeOf0
  v0 := Try.zeroValue0
  t3 := Try.underlying3
  a3 := Try.isAgg3
  z3 := Try.sizeOf3
  v3 := Try.zeroValue3
  t4 := Try.underlying4
  a4 := Try.isAgg4
  z4 := Try.sizeOf4
  v4 := Try.zeroValue4
  t5 := Try.underlying5
  a5 := Try.isAgg5
  z5 := Try.sizeOf5
  v5 := Try.zeroValue5
  t9 := Try.underlying9
  a9 := Try.isAgg9
  z9 := Try.sizeOf9
  v9 := Try.zeroValue9
  t22 := Try.underlying22
  a22 := Try.isAgg22
  z22 := Try.sizeOf22
  v22 := Try.zeroValue22
  t25 := Try.underlying67
  a25 := Try.isAgg67
  z25 := Try.sizeOf67
  v25 := Try.zeroValue67
  t39 := Try.underlying72
  a39 := Try.isAgg72
  z39 := Try.sizeOf72
  v39 := Try.zeroValue72
  t45 := Try.underlying76
  a45 := Try.isAgg76
  z45 := Try.sizeOf76
  v45 := Try.zeroValue76
  t46 := Try.underlying77
  a46 := Try.isAgg77
  z46 := Try.sizeOf77
  v46 := Try.zeroValue77
  t50 := Try.underlying82
  a50 := Try.isAgg82
  z50 := Try.sizeOf82
  v50 := Try.zeroValue82
  t53 := Try.underlying85
  a53 := Try.isAgg85
  z53 := Try.sizeOf85
  v53 := Try.zeroValue85
  t55 := Try.underlying87
  a55 := Try.isAgg87
  z55 := Try.sizeOf87
  v55 := Try.zeroValue87
  t66 := Try.underlying93
  a66 := Try.isAgg93
  z66 := Try.sizeOf93
  v66 := Try.zeroValue93
  t70 := Try.underlying97
  a70 := Try.isAgg97
  z70 := Try.sizeOf97
  v70 := Try.zeroValue97
  t76 := Try.underlying101
  a76 := Try.isAgg101
  z76 := Try.sizeOf101
  v76 := Try.zeroValue101
  t77 := Try.underlying102
  a77 := Try.isAgg102
  z77 := Try.sizeOf102
  v77 := Try.zeroValue102 }
end Go.Proofs.Ytpidhccaoponfaa
/- slices.Sort of a row of the caller's own, of one cell an element. -/
namespace Go.Proofs.Ytpidhccaoponfaa
open Go.RowKit Go.Shelf Go.Sort
set_option linter.unusedVariables false
set_option linter.unusedSimpArgs false
section
variable {P : Program} {α : Type}
theorem srt_block (enc : α → Value) (w : World) (G m : Nat) (D : Array α) (os : Array Obj) [Inhabited α] {b : Nat} (hb : b ≠ G) (hlt : b < w.heap.size) : (grow (putRow enc (Go.Sort.ahead w m) G 0 D) os).heap[b]? = w.heap[b]? := by
  unfold grow
  have hsz : (putRow enc (Go.Sort.ahead w m) G 0 D).heap.size = w.heap.size := size_putRow enc _ G 0 _
  simp only [Array.getElem?_append]
  rw [if_pos (by rw [hsz]; exact hlt)]
  unfold putRow mapBlock
  simp only [Array.getElem?_modify]
  rw [if_neg (fun e => hb e.symm)]
  rfl
theorem srt_at (enc : α → Value) (w : World) (G m : Nat) (D : Array α) (os : Array Obj) [Inhabited α] {c : Array Value} {e : TypeId} {fr : Nat × Nat} (h : w.heap[G]? = some (.cells c e fr)) : (grow (putRow enc (Go.Sort.ahead w m) G 0 D) os).heap[G]? = some (.cells (putCells enc 0 D c) e fr) := by
  unfold grow
  have hsz : (putRow enc (Go.Sort.ahead w m) G 0 D).heap.size = w.heap.size := size_putRow enc _ G 0 _
  simp only [Array.getElem?_append]
  rw [if_pos (by rw [hsz]; exact (Array.getElem?_eq_some_iff.1 h).1)]
  unfold putRow mapBlock
  have h' : (Go.Sort.ahead w m).heap[G]? = some (.cells c e fr) := h
  simp only [Array.getElem?_modify, if_true, h', Option.map_some, onCells]
theorem srt_size (enc : α → Value) (w : World) (G m : Nat) (D : Array α) (os : Array Obj) [Inhabited α] : w.heap.size ≤ (grow (putRow enc (Go.Sort.ahead w m) G 0 D) os).heap.size := by
  have hsz : (putRow enc (Go.Sort.ahead w m) G 0 D).heap.size = w.heap.size := size_putRow enc _ G 0 _
  unfold grow
  simp only [Array.size_append]
  omega
/-- A contract of the shelf's: the row's elements l are those of s behind the call. -/
theorem srtU [Inhabited α] {f : FuncId} {e : TypeId} (hent : Ent P f) (enc : α → Value) (h1 : ∀ x, (enc x).oneCell' = true) (l s : List α) (hl0 : l ≠ []) (hsl : s.length = l.length)
    (hcon : ∀ (w : World) (G cap : Nat), Holds enc w G 0 l.toArray → G < w.heap.size → Calls P f #[.slice (some ⟨G, 0, none⟩) l.length cap] w fun e' w' => e' = .returned (.tuple #[]) ∧ ∃ n os, w' = grow (putRow enc (Go.Sort.ahead w n) G 0 s.toArray) os) :
    FnU P f e 1 (.sl 1 (l.map fun x => [.lit (enc x)])) [] false (.sl 1 (s.map fun x => [.lit (enc x)])) := by
  refine ⟨hent, ?_⟩
  intro w ok B okc v0 cargs hrow hokc hok hB hgl hsz hargs
  obtain ⟨L', xs, hL', _, hlen, ho, hone, hv⟩ := hrow
  injection hL' with _ hL'
  subst hL'
  obtain rfl : cargs = #[] := Array.eq_empty_of_size_eq_zero hsz
  have hxl : xs.length = l.length := by have := ho.1; simpa using this
  have hx : ∀ i (hi : i < l.length), xs[i]? = some (enc l[i]) := fun i hi => by
    have := hv i 0 (by simpa using hi) (by omega)
    have e1 : gt2 (l.map fun x => [AV.lit (enc x)]) i 0 = .lit (enc l[i]) := by unfold gt2; simp [List.getD_eq_getElem?_getD, hi]
    rw [e1] at this
    have e2 := RV.lit_iff.1 this
    rw [Nat.mul_one, Nat.add_zero, List.getD_eq_getElem?_getD, List.getElem?_eq_getElem (by omega)] at e2
    rw [List.getElem?_eq_getElem (by omega)]
    exact congrArg some e2
  rcases ho.2 with ⟨e0, h0⟩ | ⟨G, cap, cur, e0, hBG, hG, hnc, hcm, hcs, htk⟩
  · exact absurd (List.eq_nil_of_length_eq_zero (by simpa using h0)) hl0
  rw [List.length_map] at e0 hnc htk
  rw [Nat.mul_one] at htk hcs
  subst e0
  have hcur : ∀ i (hi : i < l.length), cur[i]? = some (enc l[i]) := fun i hi => by
    rw [← Array.getElem?_toList]
    have := hx i hi
    rw [← htk, List.getElem?_take, if_pos hi] at this
    exact this
  have hGs : G < w.heap.size := (Array.getElem?_eq_some_iff.1 hG).1
  refine (hcon w G cap (fun j hj => ?_) hGs).mono ?_
  · have hj : j < l.length := by simpa using hj
    rw [Nat.zero_add]
    refine ⟨?_, by simp [World.frozen?, hG]⟩
    rw [cell_of_row w G j cur _ _ hG, hcur j hj, getElem!_pos _ _ (by simpa using hj)]
    simp
  · rintro e' w' ⟨rfl, n, os, rfl⟩
    have hat := srt_at enc w G n s.toArray os hG
    have hbl : ∀ b, b ≠ G → b < w.heap.size → (grow (putRow enc (Go.Sort.ahead w n) G 0 s.toArray) os).heap[b]? = w.heap[b]? := fun b h1 h2 => srt_block enc w G n s.toArray os h1 h2
    have hszz := srt_size enc w G n s.toArray os
    refine ⟨.slice (some ⟨G, 0, none⟩) l.length cap, rfl, ⟨rfl, rfl, rfl, hszz, fun b hb hne => hbl b (fun q => hne (by rw [q]; rfl)) hb⟩, ?_, fun _ => rfl, fun g hg => .inl hg, Nat.le_add_right _ _⟩
    refine ⟨_, s.map enc, rfl, by omega, fun y hy => by obtain ⟨x, _, rfl⟩ := List.mem_map.1 hy; rfl, ⟨by simp, .inr ⟨G, cap, _, by simp [hsl], hBG, hat, by simpa [hsl] using hnc, hcm, by simp [putCells, hcs], ?_⟩⟩, fun u hu => by obtain ⟨x, _, rfl⟩ := List.mem_map.1 hu; exact h1 x, fun i j hi hj => ?_⟩
    · rw [List.length_map, Nat.mul_one]
      apply List.ext_getElem?
      intro t
      rw [List.getElem?_take, hsl]
      split
      · rename_i ht
        have hlt : t < cur.size := by have := hcur t ht; exact (Array.getElem?_eq_some_iff.1 this).1
        rw [Array.getElem?_toList]
        simp only [putCells, Array.getElem?_mapIdx, Array.getElem?_eq_getElem hlt, Option.map_some]
        rw [if_pos ⟨Nat.zero_le _, by simp; omega⟩, Nat.sub_zero, getElem!_pos _ _ (by simp; omega)]
        simp [List.getElem?_eq_getElem (show t < s.length by omega)]
      · rename_i ht
        rw [List.getElem?_eq_none]
        simp; omega
    · have hi : i < s.length := by simpa using hi
      obtain rfl : j = 0 := by omega
      have e1 : gt2 (s.map fun x => [AV.lit (enc x)]) i 0 = .lit (enc s[i]) := by unfold gt2; simp [List.getD_eq_getElem?_getD, hi]
      have e2 : (s.map enc).getD (i * 1 + 0) undef = enc s[i] := by simp [List.getD_eq_getElem?_getD, hi]
      rw [e1, e2]
      exact .lit _
end
end Go.Proofs.Ytpidhccaoponfaa
/-
  DERIVED: THE SHELF's CONTRACTS AT THIS DUMP, IN PLAIN WORDS (tools/lay-plain.mjs out of 'YtpidhccaoponfaaShelfTry.lean', which tools/lay-shelf.mjs wrote): THE SAME DECLARATIONS UNDER THE SAME NAMES: 'import', 'namespace', 'open', 'def', 'theorem' AND NOTHING ELSE: no command of the shelf's: FOR A HAND-IN. Each laying: the table of numbers ('.._ren') and one theorem, a field a fact of the dump's own or the kernel's comparison; each contract: ONE APPLICATION.
-/
namespace Go.Proofs.Ytpidhccaoponfaa
open Go.Shelf
def sortS_ren : Go.Shelf.Ren := ⟨fun | 190 => 35 | 125 => 49 | 258 => 48 | 128 => 62 | 129 => 63 | 302 => 53 | 303 => 54 | 304 => 55 | 305 => 56 | 306 => 57 | 307 => 58 | 308 => 59 | 309 => 60 | 310 => 61 | 333 => 73 | 329 => 74 | 330 => 75 | 334 => 76 | 335 => 77 | 336 => 78 | 344 => 82 | n => n, fun | 31 => 27 | 9 => 9 | 3 => 3 | 46 => 72 | 0 => 0 | 51 => 85 | 53 => 87 | 4 => 4 | 183 => 77 | 182 => 76 | 131 => 82 | 5 => 5 | 218 => 93 | 222 => 97 | 228 => 101 | 229 => 102 | n => n, fun | n => n⟩
theorem sortS : Go.Proofs.Lays.n190 Try.prog sortS_ren := {
  mixed := by kernel_rfl
  f125 := Try.func49.trans (congrArg some (by kernel_rfl))
  f128 := Try.func62.trans (congrArg some (by kernel_rfl))
  f129 := Try.func63.trans (congrArg some (by kernel_rfl))
  f190 := Try.func35.trans (congrArg some (by kernel_rfl))
  f258 := Try.func48.trans (congrArg some (by kernel_rfl))
  f302 := Try.func53.trans (congrArg some (by kernel_rfl))
  f303 := Try.func54.trans (congrArg some (by kernel_rfl))
  f304 := Try.func55.trans (congrArg some (by kernel_rfl))
  f305 := Try.func56.trans (congrArg some (by kernel_rfl))
  f306 := Try.func57.trans (congrArg some (by kernel_rfl))
  f307 := Try.func58.trans (congrArg some (by kernel_rfl))
  f308 := Try.func59.trans (congrArg some (by kernel_rfl))
  f309 := Try.func60.trans (congrArg some (by kernel_rfl))
  f310 := Try.func61.trans (congrArg some (by kernel_rfl))
  f329 := Try.func74.trans (congrArg some (by kernel_rfl))
  f330 := Try.func75.trans (congrArg some (by kernel_rfl))
  f333 := Try.func73.trans (congrArg some (by kernel_rfl))
  f334 := Try.func76.trans (congrArg some (by kernel_rfl))
  f335 := Try.func77.trans (congrArg some (by kernel_rfl))
  f336 := Try.func78.trans (congrArg some (by kernel_rfl))
  f344 := Try.func82.trans (congrArg some (by kernel_rfl))
  t0 := Try.underlying0
  a0 := Try.isAgg0
  z0 := Try.sizeOf0
  v0 := Try.zeroValue0
  t3 := Try.underlying3
  a3 := Try.isAgg3
  z3 := Try.sizeOf3
  v3 := Try.zeroValue3
  t4 := Try.underlying4
  a4 := Try.isAgg4
  z4 := Try.sizeOf4
  v4 := Try.zeroValue4
  t5 := Try.underlying5
  a5 := Try.isAgg5
  z5 := Try.sizeOf5
  v5 := Try.zeroValue5
  t9 := Try.underlying9
  a9 := Try.isAgg9
  z9 := Try.sizeOf9
  v9 := Try.zeroValue9
  t31 := Try.underlying27
  a31 := Try.isAgg27
  z31 := Try.sizeOf27
  v31 := Try.zeroValue27
  t46 := Try.underlying72
  a46 := Try.isAgg72
  z46 := Try.sizeOf72
  v46 := Try.zeroValue72
  t51 := Try.underlying85
  a51 := Try.isAgg85
  z51 := Try.sizeOf85
  v51 := Try.zeroValue85
  t53 := Try.underlying87
  a53 := Try.isAgg87
  z53 := Try.sizeOf87
  v53 := Try.zeroValue87
  t131 := Try.underlying82
  a131 := Try.isAgg82
  z131 := Try.sizeOf82
  v131 := Try.zeroValue82
  t182 := Try.underlying76
  a182 := Try.isAgg76
  z182 := Try.sizeOf76
  v182 := Try.zeroValue76
  t183 := Try.underlying77
  a183 := Try.isAgg77
  z183 := Try.sizeOf77
  v183 := Try.zeroValue77
  t218 := Try.underlying93
  a218 := Try.isAgg93
  z218 := Try.sizeOf93
  v218 := Try.zeroValue93
  t222 := Try.underlying97
  a222 := Try.isAgg97
  z222 := Try.sizeOf97
  v222 := Try.zeroValue97
  t228 := Try.underlying101
  a228 := Try.isAgg101
  z228 := Try.sizeOf101
  v228 := Try.zeroValue101
  t229 := Try.underlying102
  a229 := Try.isAgg102
  z229 := Try.sizeOf102
  v229 := Try.zeroValue102 }
end Go.Proofs.Ytpidhccaoponfaa
/- slices.Delete at a row of the caller's own. -/
namespace Go.Proofs.Ytpidhccaoponfaa
open Go.RowKit Go.Lib
set_option linter.unusedVariables false
theorem del_list (cur news zs : List Value) (a b : Nat) (ha : a ≤ cur.length) (hb : news.length = b) :
    (((cur.take a ++ news ++ cur.drop (a + news.length)).take (a + b)) ++ zs ++ (cur.take a ++ news ++ cur.drop (a + news.length)).drop (a + b + zs.length)).take (a + b) = cur.take a ++ news := by
  have h1 : (cur.take a ++ news).length = a + b := by simp; omega
  have h2 : (cur.take a ++ news ++ cur.drop (a + news.length)).take (a + b) = cur.take a ++ news := List.take_left' h1
  rw [h2, List.append_assoc]
  exact List.take_left' h1
/-- What is left of a row. -/
theorem del_row {w w' : World} {B e s : Nat} {okc : Nat → Prop} {L : List (List AV)} {xs : List Value} {g cap : Nat} {cur' : Array Value} (i j : Nat) (hs : 0 < s) (hL : ∀ y ∈ L, y.length = s) (hxl : xs.length = L.length * s) (hone : ∀ u ∈ xs, u.oneCell' = true)
    (hv : ∀ p q, p < L.length → q < s → RV w okc (gt2 L p q) (xs.getD (p * s + q) undef)) (hij : i ≤ j) (hj : j ≤ L.length) (hB : B ≤ g) (hg : w'.heap[g]? = some (.cells cur' e (0, 0))) (hm : cap ≤ maxLen) (hcs : cur'.size = cap * s) (hnc : L.length ≤ cap)
    (htk : cur'.toList.take ((i + (L.length - j)) * s) = xs.take (i * s) ++ xs.drop (j * s)) (hk : ∀ b, okc b → b < w.heap.size → w'.heap[b]? = w.heap[b]?) :
    RRow w' B e s okc (.sl s (L.take i ++ L.drop j)) (.slice (some ⟨g, 0, none⟩) (i + (L.length - j)) cap) := by
  have hn : (L.take i ++ L.drop j).length = i + (L.length - j) := by simp; omega
  have hmul : ∀ a b : Nat, a ≤ b → a * s ≤ b * s := fun a b h => Nat.mul_le_mul_right s h
  have hjs := hmul j L.length hj
  have his := hmul i L.length (Nat.le_trans hij hj)
  refine ⟨_, xs.take (i * s) ++ xs.drop (j * s), rfl, hs, fun y hy => ?_, ⟨?_, .inr ⟨g, cap, cur', by rw [hn], hB, hg, by omega, hm, hcs, by rw [hn]; exact htk⟩⟩, fun u hu => ?_, fun p q hp hq => ?_⟩
  · rcases List.mem_append.1 hy with h | h
    · exact hL y (List.mem_of_mem_take h)
    · exact hL y (List.mem_of_mem_drop h)
  · simp only [List.length_append, List.length_take, List.length_drop, hxl, Nat.add_mul, Nat.sub_mul]
    rw [Nat.min_eq_left his, Nat.min_eq_left (by omega)]
  · rcases List.mem_append.1 hu with h | h
    · exact hone u (List.mem_of_mem_take h)
    · exact hone u (List.mem_of_mem_drop h)
  · rw [hn] at hp
    by_cases hpi : p < i
    · have := hv p q (by omega) hq
      have e1 : gt2 (L.take i ++ L.drop j) p q = gt2 L p q := by
        unfold gt2
        congr 1
        rw [List.getD_eq_getElem?_getD, List.getD_eq_getElem?_getD, List.getElem?_append_left (by simp; omega), List.getElem?_take_of_lt hpi]
      have hlt : p * s + q < i * s := by have := hmul (p + 1) i hpi; rw [Nat.add_mul] at this; omega
      have e2 : (xs.take (i * s) ++ xs.drop (j * s)).getD (p * s + q) undef = xs.getD (p * s + q) undef := by
        rw [List.getD_eq_getElem?_getD, List.getD_eq_getElem?_getD, List.getElem?_append_left (by simp; omega), List.getElem?_take_of_lt hlt]
      rw [e1, e2]
      exact this.mono fun b hb hlt => ⟨hb, hk b hb hlt⟩
    · have := hv (j + (p - i)) q (by omega) hq
      have e1 : gt2 (L.take i ++ L.drop j) p q = gt2 L (j + (p - i)) q := by
        unfold gt2
        congr 1
        rw [List.getD_eq_getElem?_getD, List.getD_eq_getElem?_getD, List.getElem?_append_right (by simp; omega), List.getElem?_drop]
        congr 3
        simp; omega
      have hge : i * s ≤ p * s := hmul i p (by omega)
      have e2 : (xs.take (i * s) ++ xs.drop (j * s)).getD (p * s + q) undef = xs.getD ((j + (p - i)) * s + q) undef := by
        rw [List.getD_eq_getElem?_getD, List.getD_eq_getElem?_getD, List.getElem?_append_right (by simp; omega), List.getElem?_drop]
        have : j * s + (p * s + q - (xs.take (i * s)).length) = (j + (p - i)) * s + q := by
          simp only [List.length_take, hxl, Nat.add_mul, Nat.sub_mul]
          rw [Nat.min_eq_left his]
          omega
        rw [this]
      rw [e1, e2]
      exact this.mono fun b hb hlt => ⟨hb, hk b hb hlt⟩
end Go.Proofs.Ytpidhccaoponfaa
/- slices.Delete at api.ConfigGroup. -/
namespace Go.Proofs.Ytpidhccaoponfaa
open Go.RowKit Go.Lib
set_option linter.unusedVariables false
set_option maxRecDepth 1000000
set_option maxHeartbeats 4000000
theorem delCg_zero (w : World) : (zeroValue 53).run Try.prog w = .ok (.agg #[.string ByteArray.empty, .slice none 0 0]) w := by kernel_rfl
theorem delCg_info : (Try.prog.info? 53).map (fun i => (i.size, i.bytes)) = some (Try.prog.cellsOf 53, Try.prog.bytesOf 53) := by kernel_rfl
theorem delCg_cells : Try.prog.cellsOf 53 = 2 := by kernel_rfl
theorem delCg_same (a : Value) (ha : ∃ A n c, a = .slice A n c ∧ n ≤ c ∧ c ≤ maxLen) (i n c : Nat) (A : Option Addr) (e1 : a = .slice A n c) (hi : i ≤ n) (hnc : n ≤ c) (hc : c ≤ maxLen) (w : World) :
    Calls Try.prog 36 #[.slice A n c, .int .i64 i, .int .i64 i] w fun e w' => e = .returned (.slice A n c) ∧ w' = w := by
  unfold maxLen at hc
  go_enter Try.func36, Try.ntmps36
  go_wp2
  all_goals (go_ret; exact ⟨rfl, rfl⟩)
theorem delCg (L : List (List AV)) (i j : Nat) (hij : i ≤ j) (hj : j ≤ L.length) : FnU Try.prog 36 53 2 (.sl 2 L) [.int i, .int j] true (.sl 2 (L.take i ++ L.drop j)) := by
  refine ⟨Try.call36, ?_⟩
  intro w ok B okc v0 cargs hrow hokc hok hB hgl hsz hargs
  have h0 := hargs 0 (by simp)
  have h1 := hargs 1 (by simp)
  have hc0 : cargs = #[.int .i64 i, .int .i64 j] := by
    have hsz2 : cargs.size = 2 := by simpa using hsz
    obtain ⟨l⟩ := cargs
    match l, hsz2 with
    | [a, b], _ =>
      have e0 : a = .int .i64 i := RV.lit_iff.1 (by simpa using h0)
      have e1 : b = .int .i64 j := RV.lit_iff.1 (by simpa using h1)
      rw [e0, e1]
  subst hc0
  clear hargs h0 h1 hsz
  obtain ⟨L', xs, e1, hs, hL, ho, hone, hv⟩ := hrow
  injection e1 with _ e1
  subst e1
  have hxl := ho.1
  rcases ho.2 with ⟨rfl, hn0⟩ | ⟨g, cap, cur, rfl, hBg, hg, hnc, hm, hcs, htk⟩
  · have hL0 : L = [] := List.length_eq_zero_iff.1 hn0
    subst hL0
    obtain rfl : j = 0 := by simpa using hj
    obtain rfl : i = 0 := by omega
    refine (delCg_same _ ⟨none, 0, 0, rfl, by omega, by unfold maxLen; omega⟩ 0 0 0 none rfl (by omega) (by omega) (by unfold maxLen; omega) w).mono ?_
    rintro e w' ⟨rfl, rfl⟩
    exact ⟨_, rfl, grownBy_refl _ _, ⟨_, xs, rfl, hs, by simp, ⟨by simpa using hxl, .inl ⟨rfl, rfl⟩⟩, hone, by simp⟩, by simp, fun g hg => (by cases hg), Nat.le_refl _⟩
  by_cases heq : i = j
  · subst heq
    refine (delCg_same _ ⟨_, _, _, rfl, hnc, hm⟩ i _ _ _ rfl hj hnc hm w).mono ?_
    rintro e w' ⟨rfl, rfl⟩
    refine ⟨_, rfl, grownBy_refl _ _, ?_, by simp, fun g hg => .inl hg, Nat.le_refl _⟩
    rw [List.take_append_drop]
    exact ⟨L, xs, rfl, hs, hL, ho, hone, hv⟩
  have hlt : i < j := by omega
  obtain ⟨news, hnews⟩ : ∃ news, news = xs.drop (j * 2) := ⟨_, rfl⟩
  have hlen : news.length = (L.length - j) * 2 := by rw [hnews, List.length_drop, hxl, Nat.sub_mul]
  have hget : ∀ t, t < (L.length - j) * 2 → news[t]? = cur[j * 2 + t]? := by
    intro t ht
    rw [hnews, List.getElem?_drop, ← htk, List.getElem?_take, if_pos (by rw [Nat.sub_mul] at ht; omega), Array.getElem?_toList]
  have hone' : ∀ u ∈ news, u.oneCell' = true := fun u hu => hone u (List.mem_of_mem_drop (hnews ▸ hu))
  have hcell : ∀ (W : World), W.heap = w.heap → ∀ k, W.cell? ⟨g, k, none⟩ = cur[k]? := fun W hW k => cell_of_row W g k cur 53 (0, 0) (by rw [hW]; exact hg)
  have hfroz : ∀ (W : World) (cs : Array Value), W.heap[g]? = some (.cells cs 53 (0, 0)) → ∀ k, W.frozen? ⟨g, k, none⟩ = false := fun W cs hW k => by simp [World.frozen?, hW]
  have hisS : ∀ (W : World) (cs : Array Value), W.heap[g]? = some (.cells cs 53 (0, 0)) → ∀ k, k < cs.size → (W.cell? ⟨g, k, none⟩).isSome = true := fun W cs hW k hk => by
    rw [cell_of_row W g k cs 53 (0, 0) hW]; simp [hk]
  obtain ⟨A, hA, hsrc⟩ : ∃ A : Addr, (if cap = j then some (⟨g, 0, none⟩ : Addr) else some ⟨g, j * 2, none⟩) = some A ∧ Hid (∀ t u, news[t]? = some u → w.drew.cell? (A.add t) = some u) := by
    by_cases h : cap = j
    · refine ⟨⟨g, 0, none⟩, by simp [h], fun t u hu => ?_⟩
      have h0 : news.length = 0 := by rw [hlen, show L.length - j = 0 by omega, Nat.zero_mul]
      rw [List.length_eq_zero_iff.1 h0] at hu
      simp at hu
    · refine ⟨⟨g, j * 2, none⟩, by simp [h], fun t u hu => ?_⟩
      have ht : t < (L.length - j) * 2 := by
        have := (List.getElem?_eq_some_iff.1 hu).1
        rwa [hlen] at this
      rw [hget t ht] at hu
      rw [Addr.add_lit]
      exact (hcell w.drew rfl _).trans hu
  have hroom : i * 2 + (L.length - j) * 2 ≤ cap * 2 := by rw [← Nat.add_mul]; exact Nat.mul_le_mul_right _ (by omega)
  have s1 : Hid (news.length = (L.length - j) * 2) := hlen
  have s2 : Hid (∀ u ∈ news, u.oneCell' = true) := hone'
  have s3 : Hid (∀ t, t < news.length → (w.drew.cell? ⟨g, 0 + i * 2 + t, none⟩).isSome = true ∧ w.drew.frozen? ⟨g, 0 + i * 2 + t, none⟩ = false) := by
    intro t ht
    rw [hlen] at ht
    exact ⟨hisS w.drew cur hg _ (by rw [hcs]; omega), hfroz w.drew cur hg _⟩
  obtain ⟨W1, hW1⟩ : ∃ W1, W1 = w.drew.setCells g (0 + i * 2) news := ⟨_, rfl⟩
  have hg1 : W1.heap[g]? = some (.cells (setR cur (0 + i * 2) news) 53 (0, 0)) := by rw [hW1]; exact setCells_blk _ _ _ _ hg
  obtain ⟨zs, hzs⟩ : ∃ zs, zs = (Builtin.zeroCells (.agg #[.string ByteArray.empty, .slice none 0 0] : Value).cells (L.length - (i + (L.length - j)))).toList := ⟨_, rfl⟩
  have hzl : zs.length = (L.length - (i + (L.length - j))) * 2 := by rw [hzs]; simp [Builtin.zeroCells, Value.cells]
  have hroom2 : (i + (L.length - j)) * 2 + (L.length - (i + (L.length - j))) * 2 ≤ cap * 2 := by rw [← Nat.add_mul]; exact Nat.mul_le_mul_right _ (by omega)
  have hcl : ∀ ty, (Builtin.clear_ #[22] ty #[.slice (some ⟨g, (i + (L.length - j)) * 2, none⟩) (L.length - (i + (L.length - j))) (cap - (i + (L.length - j)))]).run Try.prog W1 = .ok (.tuple #[]) (W1.setCells g ((i + (L.length - j)) * 2) zs) := by
    intro ty
    rw [hzs]
    refine run_clear W1 _ _ ty _ (by kernel_rfl) delCg_zero (by simp [Value.cells]) (by simp [Value.cells, Value.oneCell']) g _ _ _ (by omega) (fun t ht => hisS W1 _ hg1 _ ?_) (fun t ht => hfroz W1 _ hg1 _)
    rw [setR_size, hcs]
    have : t < (L.length - (i + (L.length - j))) * 2 := by simpa [Value.cells] using ht
    omega
  have hW : Hid (W1 = w.drew.setCells g (0 + i * 2) news) := hW1
  have hic : i ≤ cap := by omega
  have hjc : j ≤ cap := by omega
  have hm' : cap ≤ 9223372036854775807 := hm
  have key : Calls Try.prog 36 #[.slice (some ⟨g, 0, none⟩) L.length cap, .int .i64 i, .int .i64 j] w fun e w' => e = .returned (.slice (some ⟨g, 0, none⟩) (i + (L.length - j)) cap) ∧ w' = W1.setCells g ((i + (L.length - j)) * 2) zs := by
    obtain ⟨i0, hi0, hz1⟩ : ∃ i0, Try.prog.info? 53 = some i0 ∧ i0.size = 2 := by
      have := delCg_info
      cases hq : Try.prog.info? 53 with
      | none => rw [hq] at this; cases this
      | some i0 => rw [hq, delCg_cells] at this; simp at this; exact ⟨i0, rfl, this.1⟩
    have mixed : Try.prog.follows .mixedOrders = true := by kernel_rfl
    have hA' : (if cap = j then some (⟨g, 0, none⟩ : Addr) else some ⟨g, j * 2, none⟩) = some A := by simpa using hA
    have hcl' : ∀ ty, (Builtin.clear_ #[22] ty #[.slice (some ⟨g, (i + (L.length - j)) * 2, none⟩) (L.length - (i + (L.length - j))) (cap - (i + (L.length - j)))]).run Try.prog W1 = .ok (.tuple #[]) (W1.setCells g ((i + (L.length - j)) * 2) zs) := by simpa using hcl
    clear hA hcl
    have ht2 : Try.prog.underlying 22 = some (.slice 53) := by kernel_rfl
    clear hv hone hxl ho htk hcell hget hnews hone' hroom hroom2 hzl hzs hlen hg1 hW1 hfroz hisS hg hL hokc hok
    go_enter Try.func36, Try.ntmps36
    go_wp2_with fail
    go_region_law_o (refine step_append_room rfl (.tmp 22) (.tmp 25) 22 rfl 53 i0 2 ht2 hi0 hz1 g 0 i cap (by simp [Act.eval, Act.put]) A (L.length - j) (cap - j) news (by simp [Act.eval, Act.put]) s1.out hsrc.out s2.out (by omega) s3.out ?_; rw [← hW.out])
    go_wp2
    go_ret
    exact ⟨rfl, by simp⟩
  refine key.mono ?_
  rintro e w' ⟨rfl, rfl⟩
  have hg2 : (W1.setCells g ((i + (L.length - j)) * 2) zs).heap[g]? = some (.cells (setR (setR cur (0 + i * 2) news) ((i + (L.length - j)) * 2) zs) 53 (0, 0)) := setCells_blk _ _ _ _ hg1
  have hgr : w.grownBy (W1.setCells g ((i + (L.length - j)) * 2) zs) (some g) := by
    refine grownBy_trans (grownBy_drew w (some g)) (grownBy_trans ?_ (grown_setCells _ _ _ _))
    rw [hW1]; exact grown_setCells _ _ _ _
  refine ⟨_, rfl, hgr, ?_, by simp, fun g' hg' => .inl hg', by rw [setCells_drawn, hW1, setCells_drawn]; exact Nat.le_succ _⟩
  refine del_row i j hs hL hxl hone hv hij hj hBg hg2 hm (by rw [setR_size, setR_size]; exact hcs) hnc ?_ (fun b hb hlt => hgr.block b hlt fun e => (hokc b hb).1 e.symm)
  rw [setR_list _ _ _ (by rw [setR_size, hcs, hzl]; exact hroom2), setR_list _ _ _ (by rw [hcs, hlen]; omega), Nat.zero_add, Nat.add_mul, del_list _ _ _ _ _ (by rw [Array.length_toList, hcs]; omega) hlen, hnews]
  congr 1
  rw [← htk, List.take_take, Nat.min_eq_left (Nat.mul_le_mul_right _ (by omega))]
end Go.Proofs.Ytpidhccaoponfaa
/- config: what the run ends in. -/
namespace Go.Proofs.Ytpidhccaoponfaa
open Go.RowKit
set_option linter.unusedVariables false
set_option maxRecDepth 100000
namespace ConF
--GAMMA
def Γ : FuncId → Option Ca := fun f =>
  if f = 30 ∨ f = 12 ∨ f = 13 ∨ f = 9 ∨ f = 10 ∨ f = 33 ∨ f = 39 ∨ f = 21 ∨ f = 14 ∨ f = 18 ∨ f = 8 ∨ f = 26 ∨ f = 29 ∨ f = 31 ∨ f = 16 ∨ f = 20 ∨ f = 23 then some (.fn .sc)
  else if f = 11 ∨ f = 17 ∨ f = 22 then some (.fn (.tup [.row 53 2 false, .sc]))
  else if f = 24 then some (.fn (.tup [.sc, .sc]))
  else if f = 25 then some (.fn (.tup [.row 9 1 true, .sc]))
  else if f = 28 then some (.fn (.tup [.row 56 3 true, .sc]))
  else if f = 19 ∨ f = 27 then some (.fn (.row 9 1 true))
  else if f = 34 then some (.nest 53 2 1 9 9)
  else if f = 41 ∨ f = 35 then some (.upd false)
  else if f = 36 then some (.upd true)
  else if f = 52 then some (.fn .sc)
  else some .inl
def ann : FuncId → Nat → LoopEx := fun f r => if f = 37 then ⟨[], [1000000], [], []⟩ else if f = 17 ∧ r = 300012 then ⟨[], [1729], [], []⟩ else if f = 22 ∧ r = 300028 then ⟨[], [1857], [], []⟩ else if f = 22 ∧ r = 20 then ⟨[], [2689], [(2113, 0)], [(2113, 1, 9, 1)]⟩ else ⟨[], [], [], []⟩
--END GAMMA
theorem check_form (x0 r : AV) : fnF Try.prog Γ ann 3 9 Try.f9 (Try.f9.body.getD .skip) (.nil) [x0] (.sc) r = (((AV.isSl x0 2) ∧
((AV.binOk Go.BinOp.gtr (AV.len x0) (AV.int 12)) ∧
((AV.isBool (AV.bin Go.BinOp.gtr (AV.len x0) (AV.int 12))) ∧
(((isT (AV.bin Go.BinOp.gtr (AV.len x0) (AV.int 12))) →
  ((AV.flat (AV.int 2)) ∧
  (fSame (AV.int 2) r))) ∧
((isF (AV.bin Go.BinOp.gtr (AV.len x0) (AV.int 12))) →
  ((AV.isSl x0 2) ∧
  (fLoop 513 [(AV.int 0), (AV.mk 1 [])] fun ys513 again513 =>
    ((AV.binOk Go.BinOp.lss (ys513.getD 0 default) (AV.len x0)) ∧
    ((AV.isBool (AV.bin Go.BinOp.lss (ys513.getD 0 default) (AV.len x0))) ∧
    (((isT (AV.bin Go.BinOp.lss (ys513.getD 0 default) (AV.len x0))) →
      ((AV.isSl x0 2) ∧
      ((AV.inb x0 (ys513.getD 0 default)) ∧
      ((AV.isAgg (AV.atAgg x0 (ys513.getD 0 default) 0 2) 2) ∧
      (∃ r1089 : AV, ((Fn Try.prog 30 [(AV.cel (AV.atAgg x0 (ys513.getD 0 default) 0 2) 0)] Sh.sc r1089) ∧
      ((AV.unOk Go.UnOp.not r1089) ∧
      ((AV.isBool (AV.un Go.UnOp.not r1089)) ∧
      (((isT (AV.un Go.UnOp.not r1089)) →
        ((AV.flat (AV.int 3)) ∧
        (fSame (AV.int 3) r))) ∧
      ((isF (AV.un Go.UnOp.not r1089)) →
        ((AV.binOk Go.BinOp.gtr (ys513.getD 0 default) (AV.int 0)) ∧
        ((AV.isBool (AV.bin Go.BinOp.gtr (ys513.getD 0 default) (AV.int 0))) ∧
        (((isT (AV.bin Go.BinOp.gtr (ys513.getD 0 default) (AV.int 0))) →
          ((AV.binOk Go.BinOp.sub (ys513.getD 0 default) (AV.int 1)) ∧
          ((AV.isSl x0 2) ∧
          ((AV.inb x0 (AV.bin Go.BinOp.sub (ys513.getD 0 default) (AV.int 1))) ∧
          ((AV.binOk Go.BinOp.leq (AV.cel (AV.atAgg x0 (ys513.getD 0 default) 0 2) 0) (AV.at x0 (AV.bin Go.BinOp.sub (ys513.getD 0 default) (AV.int 1)) 0)) ∧
          ((AV.isBool (AV.bin Go.BinOp.gtr (ys513.getD 0 default) (AV.int 0))) ∧
          ((isT (AV.bin Go.BinOp.gtr (ys513.getD 0 default) (AV.int 0))) ∧
          ((AV.isBool (AV.bin Go.BinOp.leq (AV.cel (AV.atAgg x0 (ys513.getD 0 default) 0 2) 0) (AV.at x0 (AV.bin Go.BinOp.sub (ys513.getD 0 default) (AV.int 1)) 0))) ∧
          (((isT (AV.bin Go.BinOp.leq (AV.cel (AV.atAgg x0 (ys513.getD 0 default) 0 2) 0) (AV.at x0 (AV.bin Go.BinOp.sub (ys513.getD 0 default) (AV.int 1)) 0))) →
            ((AV.flat (AV.int 7)) ∧
            (fSame (AV.int 7) r))) ∧
          ((isF (AV.bin Go.BinOp.leq (AV.cel (AV.atAgg x0 (ys513.getD 0 default) 0 2) 0) (AV.at x0 (AV.bin Go.BinOp.sub (ys513.getD 0 default) (AV.int 1)) 0))) →
            ((AV.isSl (AV.cel (AV.atAgg x0 (ys513.getD 0 default) 0 2) 1) 1) ∧
            ((AV.binOk Go.BinOp.eql (AV.len (AV.cel (AV.atAgg x0 (ys513.getD 0 default) 0 2) 1)) (AV.int 0)) ∧
            ((AV.isBool (AV.bin Go.BinOp.eql (AV.len (AV.cel (AV.atAgg x0 (ys513.getD 0 default) 0 2) 1)) (AV.int 0))) ∧
            (((isT (AV.bin Go.BinOp.eql (AV.len (AV.cel (AV.atAgg x0 (ys513.getD 0 default) 0 2) 1)) (AV.int 0))) →
              ((AV.flat (AV.int 8)) ∧
              (fSame (AV.int 8) r))) ∧
            ((isF (AV.bin Go.BinOp.eql (AV.len (AV.cel (AV.atAgg x0 (ys513.getD 0 default) 0 2) 1)) (AV.int 0))) →
              ((AV.isSl (AV.cel (AV.atAgg x0 (ys513.getD 0 default) 0 2) 1) 1) ∧
              (fLoop 2753 [(AV.int 0), (ys513.getD 1 default)] fun ys2753 again2753 =>
                ((AV.binOk Go.BinOp.lss (ys2753.getD 0 default) (AV.len (AV.cel (AV.atAgg x0 (ys513.getD 0 default) 0 2) 1))) ∧
                ((AV.isBool (AV.bin Go.BinOp.lss (ys2753.getD 0 default) (AV.len (AV.cel (AV.atAgg x0 (ys513.getD 0 default) 0 2) 1)))) ∧
                (((isT (AV.bin Go.BinOp.lss (ys2753.getD 0 default) (AV.len (AV.cel (AV.atAgg x0 (ys513.getD 0 default) 0 2) 1)))) →
                  ((AV.isSl (AV.cel (AV.atAgg x0 (ys513.getD 0 default) 0 2) 1) 1) ∧
                  ((AV.inb (AV.cel (AV.atAgg x0 (ys513.getD 0 default) 0 2) 1) (ys2753.getD 0 default)) ∧
                  (∃ r3201 : AV, ((Fn Try.prog 30 [(AV.at (AV.cel (AV.atAgg x0 (ys513.getD 0 default) 0 2) 1) (ys2753.getD 0 default) 0)] Sh.sc r3201) ∧
                  ((AV.unOk Go.UnOp.not r3201) ∧
                  ((AV.isBool (AV.un Go.UnOp.not r3201)) ∧
                  (((isT (AV.un Go.UnOp.not r3201)) →
                    ((AV.flat (AV.int 3)) ∧
                    (fSame (AV.int 3) r))) ∧
                  ((isF (AV.un Go.UnOp.not r3201)) →
                    (∃ r3521 : AV, ((Fn Try.prog 31 [(ys2753.getD 1 default), (AV.at (AV.cel (AV.atAgg x0 (ys513.getD 0 default) 0 2) 1) (ys2753.getD 0 default) 0)] Sh.sc r3521) ∧
                    ((AV.isBool r3521) ∧
                    (((isT r3521) →
                      ((AV.isBool r3521) ∧
                      ((isT r3521) ∧
                      ((AV.flat (AV.int 7)) ∧
                      (fSame (AV.int 7) r))))) ∧
                    ((isF r3521) →
                      ((AV.binOk Go.BinOp.gtr (ys2753.getD 0 default) (AV.int 0)) ∧
                      ((AV.isBool (AV.bin Go.BinOp.gtr (ys2753.getD 0 default) (AV.int 0))) ∧
                      (((isT (AV.bin Go.BinOp.gtr (ys2753.getD 0 default) (AV.int 0))) →
                        ((AV.binOk Go.BinOp.sub (ys2753.getD 0 default) (AV.int 1)) ∧
                        ((AV.isSl (AV.cel (AV.atAgg x0 (ys513.getD 0 default) 0 2) 1) 1) ∧
                        ((AV.inb (AV.cel (AV.atAgg x0 (ys513.getD 0 default) 0 2) 1) (AV.bin Go.BinOp.sub (ys2753.getD 0 default) (AV.int 1))) ∧
                        ((AV.binOk Go.BinOp.lss (AV.at (AV.cel (AV.atAgg x0 (ys513.getD 0 default) 0 2) 1) (ys2753.getD 0 default) 0) (AV.at (AV.cel (AV.atAgg x0 (ys513.getD 0 default) 0 2) 1) (AV.bin Go.BinOp.sub (ys2753.getD 0 default) (AV.int 1)) 0)) ∧
                        ((AV.isBool (AV.bin Go.BinOp.gtr (ys2753.getD 0 default) (AV.int 0))) ∧
                        ((isT (AV.bin Go.BinOp.gtr (ys2753.getD 0 default) (AV.int 0))) ∧
                        ((AV.isBool r3521) ∧
                        ((isF r3521) ∧
                        ((AV.isBool (AV.bin Go.BinOp.lss (AV.at (AV.cel (AV.atAgg x0 (ys513.getD 0 default) 0 2) 1) (ys2753.getD 0 default) 0) (AV.at (AV.cel (AV.atAgg x0 (ys513.getD 0 default) 0 2) 1) (AV.bin Go.BinOp.sub (ys2753.getD 0 default) (AV.int 1)) 0))) ∧
                        (((isT (AV.bin Go.BinOp.lss (AV.at (AV.cel (AV.atAgg x0 (ys513.getD 0 default) 0 2) 1) (ys2753.getD 0 default) 0) (AV.at (AV.cel (AV.atAgg x0 (ys513.getD 0 default) 0 2) 1) (AV.bin Go.BinOp.sub (ys2753.getD 0 default) (AV.int 1)) 0))) →
                          ((AV.flat (AV.int 7)) ∧
                          (fSame (AV.int 7) r))) ∧
                        ((isF (AV.bin Go.BinOp.lss (AV.at (AV.cel (AV.atAgg x0 (ys513.getD 0 default) 0 2) 1) (ys2753.getD 0 default) 0) (AV.at (AV.cel (AV.atAgg x0 (ys513.getD 0 default) 0 2) 1) (AV.bin Go.BinOp.sub (ys2753.getD 0 default) (AV.int 1)) 0))) →
                          ((AV.binOk Go.BinOp.eql (AV.len (ys2753.getD 1 default)) (AV.int 12)) ∧
                          ((AV.isBool (AV.bin Go.BinOp.eql (AV.len (ys2753.getD 1 default)) (AV.int 12))) ∧
                          (((isT (AV.bin Go.BinOp.eql (AV.len (ys2753.getD 1 default)) (AV.int 12))) →
                            ((AV.flat (AV.int 2)) ∧
                            (fSame (AV.int 2) r))) ∧
                          ((isF (AV.bin Go.BinOp.eql (AV.len (ys2753.getD 1 default)) (AV.int 12))) →
                            ((AV.isOne (AV.at (AV.cel (AV.atAgg x0 (ys513.getD 0 default) 0 2) 1) (ys2753.getD 0 default) 0)) ∧
                            ((AV.room (ys2753.getD 1 default) (AV.mk 1 [[(AV.at (AV.cel (AV.atAgg x0 (ys513.getD 0 default) 0 2) 1) (ys2753.getD 0 default) 0)]]) 16) ∧
                            ((AV.binOk Go.BinOp.add (ys2753.getD 0 default) (AV.int 1)) ∧
                            (again2753 [(AV.bin Go.BinOp.add (ys2753.getD 0 default) (AV.int 1)), (AV.app 1 (ys2753.getD 1 default) (AV.mk 1 [[(AV.at (AV.cel (AV.atAgg x0 (ys513.getD 0 default) 0 2) 1) (ys2753.getD 0 default) 0)]]))])))))))))))))))))))) ∧
                      ((isF (AV.bin Go.BinOp.gtr (ys2753.getD 0 default) (AV.int 0))) →
                        ((AV.isBool (AV.bin Go.BinOp.gtr (ys2753.getD 0 default) (AV.int 0))) ∧
                        ((isF (AV.bin Go.BinOp.gtr (ys2753.getD 0 default) (AV.int 0))) ∧
                        ((AV.isBool r3521) ∧
                        ((isF r3521) ∧
                        ((AV.binOk Go.BinOp.eql (AV.len (ys2753.getD 1 default)) (AV.int 12)) ∧
                        ((AV.isBool (AV.bin Go.BinOp.eql (AV.len (ys2753.getD 1 default)) (AV.int 12))) ∧
                        (((isT (AV.bin Go.BinOp.eql (AV.len (ys2753.getD 1 default)) (AV.int 12))) →
                          ((AV.flat (AV.int 2)) ∧
                          (fSame (AV.int 2) r))) ∧
                        ((isF (AV.bin Go.BinOp.eql (AV.len (ys2753.getD 1 default)) (AV.int 12))) →
                          ((AV.isOne (AV.at (AV.cel (AV.atAgg x0 (ys513.getD 0 default) 0 2) 1) (ys2753.getD 0 default) 0)) ∧
                          ((AV.room (ys2753.getD 1 default) (AV.mk 1 [[(AV.at (AV.cel (AV.atAgg x0 (ys513.getD 0 default) 0 2) 1) (ys2753.getD 0 default) 0)]]) 16) ∧
                          ((AV.binOk Go.BinOp.add (ys2753.getD 0 default) (AV.int 1)) ∧
                          (again2753 [(AV.bin Go.BinOp.add (ys2753.getD 0 default) (AV.int 1)), (AV.app 1 (ys2753.getD 1 default) (AV.mk 1 [[(AV.at (AV.cel (AV.atAgg x0 (ys513.getD 0 default) 0 2) 1) (ys2753.getD 0 default) 0)]]))])))))))))))))))))))))))))))))) ∧
                ((isF (AV.bin Go.BinOp.lss (ys2753.getD 0 default) (AV.len (AV.cel (AV.atAgg x0 (ys513.getD 0 default) 0 2) 1)))) →
                  ((AV.binOk Go.BinOp.add (ys513.getD 0 default) (AV.int 1)) ∧
                  (again513 [(AV.bin Go.BinOp.add (ys513.getD 0 default) (AV.int 1)), (ys2753.getD 1 default)]))))))))))))))))))))))) ∧
        ((isF (AV.bin Go.BinOp.gtr (ys513.getD 0 default) (AV.int 0))) →
          ((AV.isBool (AV.bin Go.BinOp.gtr (ys513.getD 0 default) (AV.int 0))) ∧
          ((isF (AV.bin Go.BinOp.gtr (ys513.getD 0 default) (AV.int 0))) ∧
          ((AV.isSl (AV.cel (AV.atAgg x0 (ys513.getD 0 default) 0 2) 1) 1) ∧
          ((AV.binOk Go.BinOp.eql (AV.len (AV.cel (AV.atAgg x0 (ys513.getD 0 default) 0 2) 1)) (AV.int 0)) ∧
          ((AV.isBool (AV.bin Go.BinOp.eql (AV.len (AV.cel (AV.atAgg x0 (ys513.getD 0 default) 0 2) 1)) (AV.int 0))) ∧
          (((isT (AV.bin Go.BinOp.eql (AV.len (AV.cel (AV.atAgg x0 (ys513.getD 0 default) 0 2) 1)) (AV.int 0))) →
            ((AV.flat (AV.int 8)) ∧
            (fSame (AV.int 8) r))) ∧
          ((isF (AV.bin Go.BinOp.eql (AV.len (AV.cel (AV.atAgg x0 (ys513.getD 0 default) 0 2) 1)) (AV.int 0))) →
            ((AV.isSl (AV.cel (AV.atAgg x0 (ys513.getD 0 default) 0 2) 1) 1) ∧
            (fLoop 2753 [(AV.int 0), (ys513.getD 1 default)] fun ys2753 again2753 =>
              ((AV.binOk Go.BinOp.lss (ys2753.getD 0 default) (AV.len (AV.cel (AV.atAgg x0 (ys513.getD 0 default) 0 2) 1))) ∧
              ((AV.isBool (AV.bin Go.BinOp.lss (ys2753.getD 0 default) (AV.len (AV.cel (AV.atAgg x0 (ys513.getD 0 default) 0 2) 1)))) ∧
              (((isT (AV.bin Go.BinOp.lss (ys2753.getD 0 default) (AV.len (AV.cel (AV.atAgg x0 (ys513.getD 0 default) 0 2) 1)))) →
                ((AV.isSl (AV.cel (AV.atAgg x0 (ys513.getD 0 default) 0 2) 1) 1) ∧
                ((AV.inb (AV.cel (AV.atAgg x0 (ys513.getD 0 default) 0 2) 1) (ys2753.getD 0 default)) ∧
                (∃ r3201 : AV, ((Fn Try.prog 30 [(AV.at (AV.cel (AV.atAgg x0 (ys513.getD 0 default) 0 2) 1) (ys2753.getD 0 default) 0)] Sh.sc r3201) ∧
                ((AV.unOk Go.UnOp.not r3201) ∧
                ((AV.isBool (AV.un Go.UnOp.not r3201)) ∧
                (((isT (AV.un Go.UnOp.not r3201)) →
                  ((AV.flat (AV.int 3)) ∧
                  (fSame (AV.int 3) r))) ∧
                ((isF (AV.un Go.UnOp.not r3201)) →
                  (∃ r3521 : AV, ((Fn Try.prog 31 [(ys2753.getD 1 default), (AV.at (AV.cel (AV.atAgg x0 (ys513.getD 0 default) 0 2) 1) (ys2753.getD 0 default) 0)] Sh.sc r3521) ∧
                  ((AV.isBool r3521) ∧
                  (((isT r3521) →
                    ((AV.isBool r3521) ∧
                    ((isT r3521) ∧
                    ((AV.flat (AV.int 7)) ∧
                    (fSame (AV.int 7) r))))) ∧
                  ((isF r3521) →
                    ((AV.binOk Go.BinOp.gtr (ys2753.getD 0 default) (AV.int 0)) ∧
                    ((AV.isBool (AV.bin Go.BinOp.gtr (ys2753.getD 0 default) (AV.int 0))) ∧
                    (((isT (AV.bin Go.BinOp.gtr (ys2753.getD 0 default) (AV.int 0))) →
                      ((AV.binOk Go.BinOp.sub (ys2753.getD 0 default) (AV.int 1)) ∧
                      ((AV.isSl (AV.cel (AV.atAgg x0 (ys513.getD 0 default) 0 2) 1) 1) ∧
                      ((AV.inb (AV.cel (AV.atAgg x0 (ys513.getD 0 default) 0 2) 1) (AV.bin Go.BinOp.sub (ys2753.getD 0 default) (AV.int 1))) ∧
                      ((AV.binOk Go.BinOp.lss (AV.at (AV.cel (AV.atAgg x0 (ys513.getD 0 default) 0 2) 1) (ys2753.getD 0 default) 0) (AV.at (AV.cel (AV.atAgg x0 (ys513.getD 0 default) 0 2) 1) (AV.bin Go.BinOp.sub (ys2753.getD 0 default) (AV.int 1)) 0)) ∧
                      ((AV.isBool (AV.bin Go.BinOp.gtr (ys2753.getD 0 default) (AV.int 0))) ∧
                      ((isT (AV.bin Go.BinOp.gtr (ys2753.getD 0 default) (AV.int 0))) ∧
                      ((AV.isBool r3521) ∧
                      ((isF r3521) ∧
                      ((AV.isBool (AV.bin Go.BinOp.lss (AV.at (AV.cel (AV.atAgg x0 (ys513.getD 0 default) 0 2) 1) (ys2753.getD 0 default) 0) (AV.at (AV.cel (AV.atAgg x0 (ys513.getD 0 default) 0 2) 1) (AV.bin Go.BinOp.sub (ys2753.getD 0 default) (AV.int 1)) 0))) ∧
                      (((isT (AV.bin Go.BinOp.lss (AV.at (AV.cel (AV.atAgg x0 (ys513.getD 0 default) 0 2) 1) (ys2753.getD 0 default) 0) (AV.at (AV.cel (AV.atAgg x0 (ys513.getD 0 default) 0 2) 1) (AV.bin Go.BinOp.sub (ys2753.getD 0 default) (AV.int 1)) 0))) →
                        ((AV.flat (AV.int 7)) ∧
                        (fSame (AV.int 7) r))) ∧
                      ((isF (AV.bin Go.BinOp.lss (AV.at (AV.cel (AV.atAgg x0 (ys513.getD 0 default) 0 2) 1) (ys2753.getD 0 default) 0) (AV.at (AV.cel (AV.atAgg x0 (ys513.getD 0 default) 0 2) 1) (AV.bin Go.BinOp.sub (ys2753.getD 0 default) (AV.int 1)) 0))) →
                        ((AV.binOk Go.BinOp.eql (AV.len (ys2753.getD 1 default)) (AV.int 12)) ∧
                        ((AV.isBool (AV.bin Go.BinOp.eql (AV.len (ys2753.getD 1 default)) (AV.int 12))) ∧
                        (((isT (AV.bin Go.BinOp.eql (AV.len (ys2753.getD 1 default)) (AV.int 12))) →
                          ((AV.flat (AV.int 2)) ∧
                          (fSame (AV.int 2) r))) ∧
                        ((isF (AV.bin Go.BinOp.eql (AV.len (ys2753.getD 1 default)) (AV.int 12))) →
                          ((AV.isOne (AV.at (AV.cel (AV.atAgg x0 (ys513.getD 0 default) 0 2) 1) (ys2753.getD 0 default) 0)) ∧
                          ((AV.room (ys2753.getD 1 default) (AV.mk 1 [[(AV.at (AV.cel (AV.atAgg x0 (ys513.getD 0 default) 0 2) 1) (ys2753.getD 0 default) 0)]]) 16) ∧
                          ((AV.binOk Go.BinOp.add (ys2753.getD 0 default) (AV.int 1)) ∧
                          (again2753 [(AV.bin Go.BinOp.add (ys2753.getD 0 default) (AV.int 1)), (AV.app 1 (ys2753.getD 1 default) (AV.mk 1 [[(AV.at (AV.cel (AV.atAgg x0 (ys513.getD 0 default) 0 2) 1) (ys2753.getD 0 default) 0)]]))])))))))))))))))))))) ∧
                    ((isF (AV.bin Go.BinOp.gtr (ys2753.getD 0 default) (AV.int 0))) →
                      ((AV.isBool (AV.bin Go.BinOp.gtr (ys2753.getD 0 default) (AV.int 0))) ∧
                      ((isF (AV.bin Go.BinOp.gtr (ys2753.getD 0 default) (AV.int 0))) ∧
                      ((AV.isBool r3521) ∧
                      ((isF r3521) ∧
                      ((AV.binOk Go.BinOp.eql (AV.len (ys2753.getD 1 default)) (AV.int 12)) ∧
                      ((AV.isBool (AV.bin Go.BinOp.eql (AV.len (ys2753.getD 1 default)) (AV.int 12))) ∧
                      (((isT (AV.bin Go.BinOp.eql (AV.len (ys2753.getD 1 default)) (AV.int 12))) →
                        ((AV.flat (AV.int 2)) ∧
                        (fSame (AV.int 2) r))) ∧
                      ((isF (AV.bin Go.BinOp.eql (AV.len (ys2753.getD 1 default)) (AV.int 12))) →
                        ((AV.isOne (AV.at (AV.cel (AV.atAgg x0 (ys513.getD 0 default) 0 2) 1) (ys2753.getD 0 default) 0)) ∧
                        ((AV.room (ys2753.getD 1 default) (AV.mk 1 [[(AV.at (AV.cel (AV.atAgg x0 (ys513.getD 0 default) 0 2) 1) (ys2753.getD 0 default) 0)]]) 16) ∧
                        ((AV.binOk Go.BinOp.add (ys2753.getD 0 default) (AV.int 1)) ∧
                        (again2753 [(AV.bin Go.BinOp.add (ys2753.getD 0 default) (AV.int 1)), (AV.app 1 (ys2753.getD 1 default) (AV.mk 1 [[(AV.at (AV.cel (AV.atAgg x0 (ys513.getD 0 default) 0 2) 1) (ys2753.getD 0 default) 0)]]))])))))))))))))))))))))))))))))) ∧
              ((isF (AV.bin Go.BinOp.lss (ys2753.getD 0 default) (AV.len (AV.cel (AV.atAgg x0 (ys513.getD 0 default) 0 2) 1)))) →
                ((AV.binOk Go.BinOp.add (ys513.getD 0 default) (AV.int 1)) ∧
                (again513 [(AV.bin Go.BinOp.add (ys513.getD 0 default) (AV.int 1)), (ys2753.getD 1 default)]))))))))))))))))))))))))))))) ∧
    ((isF (AV.bin Go.BinOp.lss (ys513.getD 0 default) (AV.len x0))) →
      ((AV.flat (AV.int 0)) ∧
      (fSame (AV.int 0) r)))))))))))))) := by kernel_rfl
theorem gerr_form (x0 r : AV) : fnF Try.prog Γ ann 3 10 Try.f10 (Try.f10.body.getD .skip) (.nil) [x0] (.sc) r = (((AV.isSl x0 2) ∧
((AV.binOk Go.BinOp.gtr (AV.len x0) (AV.int 12)) ∧
((AV.isBool (AV.bin Go.BinOp.gtr (AV.len x0) (AV.int 12))) ∧
(((isT (AV.bin Go.BinOp.gtr (AV.len x0) (AV.int 12))) →
  ((AV.flat (AV.int 2)) ∧
  (fSame (AV.int 2) r))) ∧
((isF (AV.bin Go.BinOp.gtr (AV.len x0) (AV.int 12))) →
  ((AV.isSl x0 2) ∧
  (fLoop 577 [(AV.lit (Value.string ⟨#[]⟩)), (AV.int 0), (AV.mk 1 [])] fun ys577 again577 =>
    ((AV.binOk Go.BinOp.lss (ys577.getD 1 default) (AV.len x0)) ∧
    ((AV.isBool (AV.bin Go.BinOp.lss (ys577.getD 1 default) (AV.len x0))) ∧
    (((isT (AV.bin Go.BinOp.lss (ys577.getD 1 default) (AV.len x0))) →
      ((AV.isSl x0 2) ∧
      ((AV.inb x0 (ys577.getD 1 default)) ∧
      ((AV.isAgg (AV.atAgg x0 (ys577.getD 1 default) 0 2) 2) ∧
      (∃ r1025 : AV, ((Fn Try.prog 12 [(AV.cel (AV.atAgg x0 (ys577.getD 1 default) 0 2) 0)] Sh.sc r1025) ∧
      ((AV.unOk Go.UnOp.not r1025) ∧
      ((AV.isBool (AV.un Go.UnOp.not r1025)) ∧
      (((isT (AV.un Go.UnOp.not r1025)) →
        ((AV.flat (AV.int 3)) ∧
        (fSame (AV.int 3) r))) ∧
      ((isF (AV.un Go.UnOp.not r1025)) →
        ((AV.binOk Go.BinOp.leq (AV.cel (AV.atAgg x0 (ys577.getD 1 default) 0 2) 0) (ys577.getD 0 default)) ∧
        ((AV.isBool (AV.bin Go.BinOp.leq (AV.cel (AV.atAgg x0 (ys577.getD 1 default) 0 2) 0) (ys577.getD 0 default))) ∧
        (((isT (AV.bin Go.BinOp.leq (AV.cel (AV.atAgg x0 (ys577.getD 1 default) 0 2) 0) (ys577.getD 0 default))) →
          ((AV.flat (AV.int 7)) ∧
          (fSame (AV.int 7) r))) ∧
        ((isF (AV.bin Go.BinOp.leq (AV.cel (AV.atAgg x0 (ys577.getD 1 default) 0 2) 0) (ys577.getD 0 default))) →
          ((AV.isSl (AV.cel (AV.atAgg x0 (ys577.getD 1 default) 0 2) 1) 1) ∧
          ((AV.binOk Go.BinOp.eql (AV.len (AV.cel (AV.atAgg x0 (ys577.getD 1 default) 0 2) 1)) (AV.int 0)) ∧
          ((AV.isBool (AV.bin Go.BinOp.eql (AV.len (AV.cel (AV.atAgg x0 (ys577.getD 1 default) 0 2) 1)) (AV.int 0))) ∧
          (((isT (AV.bin Go.BinOp.eql (AV.len (AV.cel (AV.atAgg x0 (ys577.getD 1 default) 0 2) 1)) (AV.int 0))) →
            ((AV.flat (AV.int 8)) ∧
            (fSame (AV.int 8) r))) ∧
          ((isF (AV.bin Go.BinOp.eql (AV.len (AV.cel (AV.atAgg x0 (ys577.getD 1 default) 0 2) 1)) (AV.int 0))) →
            ((AV.isSl (AV.cel (AV.atAgg x0 (ys577.getD 1 default) 0 2) 1) 1) ∧
            (fLoop 2113 [(AV.int 0), (ys577.getD 2 default)] fun ys2113 again2113 =>
              ((AV.binOk Go.BinOp.lss (ys2113.getD 0 default) (AV.len (AV.cel (AV.atAgg x0 (ys577.getD 1 default) 0 2) 1))) ∧
              ((AV.isBool (AV.bin Go.BinOp.lss (ys2113.getD 0 default) (AV.len (AV.cel (AV.atAgg x0 (ys577.getD 1 default) 0 2) 1)))) ∧
              (((isT (AV.bin Go.BinOp.lss (ys2113.getD 0 default) (AV.len (AV.cel (AV.atAgg x0 (ys577.getD 1 default) 0 2) 1)))) →
                ((AV.isSl (AV.cel (AV.atAgg x0 (ys577.getD 1 default) 0 2) 1) 1) ∧
                ((AV.inb (AV.cel (AV.atAgg x0 (ys577.getD 1 default) 0 2) 1) (ys2113.getD 0 default)) ∧
                (∃ r2561 : AV, ((Fn Try.prog 12 [(AV.at (AV.cel (AV.atAgg x0 (ys577.getD 1 default) 0 2) 1) (ys2113.getD 0 default) 0)] Sh.sc r2561) ∧
                ((AV.unOk Go.UnOp.not r2561) ∧
                ((AV.isBool (AV.un Go.UnOp.not r2561)) ∧
                (((isT (AV.un Go.UnOp.not r2561)) →
                  ((AV.flat (AV.int 3)) ∧
                  (fSame (AV.int 3) r))) ∧
                ((isF (AV.un Go.UnOp.not r2561)) →
                  (∃ r2817 : AV, ((Fn Try.prog 13 [(ys2113.getD 1 default), (AV.at (AV.cel (AV.atAgg x0 (ys577.getD 1 default) 0 2) 1) (ys2113.getD 0 default) 0)] Sh.sc r2817) ∧
                  ((AV.isBool r2817) ∧
                  (((isT r2817) →
                    ((AV.isBool r2817) ∧
                    ((isT r2817) ∧
                    ((AV.flat (AV.int 7)) ∧
                    (fSame (AV.int 7) r))))) ∧
                  ((isF r2817) →
                    ((AV.binOk Go.BinOp.gtr (ys2113.getD 0 default) (AV.int 0)) ∧
                    ((AV.isBool (AV.bin Go.BinOp.gtr (ys2113.getD 0 default) (AV.int 0))) ∧
                    (((isT (AV.bin Go.BinOp.gtr (ys2113.getD 0 default) (AV.int 0))) →
                      ((AV.binOk Go.BinOp.sub (ys2113.getD 0 default) (AV.int 1)) ∧
                      ((AV.isSl (AV.cel (AV.atAgg x0 (ys577.getD 1 default) 0 2) 1) 1) ∧
                      ((AV.inb (AV.cel (AV.atAgg x0 (ys577.getD 1 default) 0 2) 1) (AV.bin Go.BinOp.sub (ys2113.getD 0 default) (AV.int 1))) ∧
                      ((AV.binOk Go.BinOp.lss (AV.at (AV.cel (AV.atAgg x0 (ys577.getD 1 default) 0 2) 1) (ys2113.getD 0 default) 0) (AV.at (AV.cel (AV.atAgg x0 (ys577.getD 1 default) 0 2) 1) (AV.bin Go.BinOp.sub (ys2113.getD 0 default) (AV.int 1)) 0)) ∧
                      ((AV.isBool (AV.bin Go.BinOp.gtr (ys2113.getD 0 default) (AV.int 0))) ∧
                      ((isT (AV.bin Go.BinOp.gtr (ys2113.getD 0 default) (AV.int 0))) ∧
                      ((AV.isBool r2817) ∧
                      ((isF r2817) ∧
                      ((AV.isBool (AV.bin Go.BinOp.lss (AV.at (AV.cel (AV.atAgg x0 (ys577.getD 1 default) 0 2) 1) (ys2113.getD 0 default) 0) (AV.at (AV.cel (AV.atAgg x0 (ys577.getD 1 default) 0 2) 1) (AV.bin Go.BinOp.sub (ys2113.getD 0 default) (AV.int 1)) 0))) ∧
                      (((isT (AV.bin Go.BinOp.lss (AV.at (AV.cel (AV.atAgg x0 (ys577.getD 1 default) 0 2) 1) (ys2113.getD 0 default) 0) (AV.at (AV.cel (AV.atAgg x0 (ys577.getD 1 default) 0 2) 1) (AV.bin Go.BinOp.sub (ys2113.getD 0 default) (AV.int 1)) 0))) →
                        ((AV.flat (AV.int 7)) ∧
                        (fSame (AV.int 7) r))) ∧
                      ((isF (AV.bin Go.BinOp.lss (AV.at (AV.cel (AV.atAgg x0 (ys577.getD 1 default) 0 2) 1) (ys2113.getD 0 default) 0) (AV.at (AV.cel (AV.atAgg x0 (ys577.getD 1 default) 0 2) 1) (AV.bin Go.BinOp.sub (ys2113.getD 0 default) (AV.int 1)) 0))) →
                        ((AV.isOne (AV.at (AV.cel (AV.atAgg x0 (ys577.getD 1 default) 0 2) 1) (ys2113.getD 0 default) 0)) ∧
                        ((AV.room (ys2113.getD 1 default) (AV.mk 1 [[(AV.at (AV.cel (AV.atAgg x0 (ys577.getD 1 default) 0 2) 1) (ys2113.getD 0 default) 0)]]) 16) ∧
                        ((AV.binOk Go.BinOp.gtr (AV.len (AV.app 1 (ys2113.getD 1 default) (AV.mk 1 [[(AV.at (AV.cel (AV.atAgg x0 (ys577.getD 1 default) 0 2) 1) (ys2113.getD 0 default) 0)]]))) (AV.int 12)) ∧
                        ((AV.isBool (AV.bin Go.BinOp.gtr (AV.len (AV.app 1 (ys2113.getD 1 default) (AV.mk 1 [[(AV.at (AV.cel (AV.atAgg x0 (ys577.getD 1 default) 0 2) 1) (ys2113.getD 0 default) 0)]]))) (AV.int 12))) ∧
                        (((isT (AV.bin Go.BinOp.gtr (AV.len (AV.app 1 (ys2113.getD 1 default) (AV.mk 1 [[(AV.at (AV.cel (AV.atAgg x0 (ys577.getD 1 default) 0 2) 1) (ys2113.getD 0 default) 0)]]))) (AV.int 12))) →
                          ((AV.flat (AV.int 2)) ∧
                          (fSame (AV.int 2) r))) ∧
                        ((isF (AV.bin Go.BinOp.gtr (AV.len (AV.app 1 (ys2113.getD 1 default) (AV.mk 1 [[(AV.at (AV.cel (AV.atAgg x0 (ys577.getD 1 default) 0 2) 1) (ys2113.getD 0 default) 0)]]))) (AV.int 12))) →
                          ((AV.binOk Go.BinOp.add (ys2113.getD 0 default) (AV.int 1)) ∧
                          (again2113 [(AV.bin Go.BinOp.add (ys2113.getD 0 default) (AV.int 1)), (AV.app 1 (ys2113.getD 1 default) (AV.mk 1 [[(AV.at (AV.cel (AV.atAgg x0 (ys577.getD 1 default) 0 2) 1) (ys2113.getD 0 default) 0)]]))])))))))))))))))))))) ∧
                    ((isF (AV.bin Go.BinOp.gtr (ys2113.getD 0 default) (AV.int 0))) →
                      ((AV.isBool (AV.bin Go.BinOp.gtr (ys2113.getD 0 default) (AV.int 0))) ∧
                      ((isF (AV.bin Go.BinOp.gtr (ys2113.getD 0 default) (AV.int 0))) ∧
                      ((AV.isBool r2817) ∧
                      ((isF r2817) ∧
                      ((AV.isOne (AV.at (AV.cel (AV.atAgg x0 (ys577.getD 1 default) 0 2) 1) (ys2113.getD 0 default) 0)) ∧
                      ((AV.room (ys2113.getD 1 default) (AV.mk 1 [[(AV.at (AV.cel (AV.atAgg x0 (ys577.getD 1 default) 0 2) 1) (ys2113.getD 0 default) 0)]]) 16) ∧
                      ((AV.binOk Go.BinOp.gtr (AV.len (AV.app 1 (ys2113.getD 1 default) (AV.mk 1 [[(AV.at (AV.cel (AV.atAgg x0 (ys577.getD 1 default) 0 2) 1) (ys2113.getD 0 default) 0)]]))) (AV.int 12)) ∧
                      ((AV.isBool (AV.bin Go.BinOp.gtr (AV.len (AV.app 1 (ys2113.getD 1 default) (AV.mk 1 [[(AV.at (AV.cel (AV.atAgg x0 (ys577.getD 1 default) 0 2) 1) (ys2113.getD 0 default) 0)]]))) (AV.int 12))) ∧
                      (((isT (AV.bin Go.BinOp.gtr (AV.len (AV.app 1 (ys2113.getD 1 default) (AV.mk 1 [[(AV.at (AV.cel (AV.atAgg x0 (ys577.getD 1 default) 0 2) 1) (ys2113.getD 0 default) 0)]]))) (AV.int 12))) →
                        ((AV.flat (AV.int 2)) ∧
                        (fSame (AV.int 2) r))) ∧
                      ((isF (AV.bin Go.BinOp.gtr (AV.len (AV.app 1 (ys2113.getD 1 default) (AV.mk 1 [[(AV.at (AV.cel (AV.atAgg x0 (ys577.getD 1 default) 0 2) 1) (ys2113.getD 0 default) 0)]]))) (AV.int 12))) →
                        ((AV.binOk Go.BinOp.add (ys2113.getD 0 default) (AV.int 1)) ∧
                        (again2113 [(AV.bin Go.BinOp.add (ys2113.getD 0 default) (AV.int 1)), (AV.app 1 (ys2113.getD 1 default) (AV.mk 1 [[(AV.at (AV.cel (AV.atAgg x0 (ys577.getD 1 default) 0 2) 1) (ys2113.getD 0 default) 0)]]))])))))))))))))))))))))))))))))) ∧
              ((isF (AV.bin Go.BinOp.lss (ys2113.getD 0 default) (AV.len (AV.cel (AV.atAgg x0 (ys577.getD 1 default) 0 2) 1)))) →
                ((AV.binOk Go.BinOp.add (ys577.getD 1 default) (AV.int 1)) ∧
                (again577 [(AV.cel (AV.atAgg x0 (ys577.getD 1 default) 0 2) 0), (AV.bin Go.BinOp.add (ys577.getD 1 default) (AV.int 1)), (ys2113.getD 1 default)]))))))))))))))))))))))))))) ∧
    ((isF (AV.bin Go.BinOp.lss (ys577.getD 1 default) (AV.len x0))) →
      ((AV.flat (AV.int 0)) ∧
      (fSame (AV.int 0) r)))))))))))))) := by kernel_rfl
theorem has_form (x0 x1 r : AV) : fnF Try.prog Γ ann 3 13 Try.f13 (Try.f13.body.getD .skip) (.nil) [x0, x1] (.sc) r = (((AV.isSl x0 1) ∧
(fLoop 257 [(AV.int 0)] fun ys257 again257 =>
  ((AV.binOk Go.BinOp.lss (ys257.getD 0 default) (AV.len x0)) ∧
  ((AV.isBool (AV.bin Go.BinOp.lss (ys257.getD 0 default) (AV.len x0))) ∧
  (((isT (AV.bin Go.BinOp.lss (ys257.getD 0 default) (AV.len x0))) →
    ((AV.isSl x0 1) ∧
    ((AV.inb x0 (ys257.getD 0 default)) ∧
    ((AV.binOk Go.BinOp.eql (AV.at x0 (ys257.getD 0 default) 0) x1) ∧
    ((AV.isBool (AV.bin Go.BinOp.eql (AV.at x0 (ys257.getD 0 default) 0) x1)) ∧
    (((isT (AV.bin Go.BinOp.eql (AV.at x0 (ys257.getD 0 default) 0) x1)) →
      ((AV.flat (AV.bool true)) ∧
      (fSame (AV.bool true) r))) ∧
    ((isF (AV.bin Go.BinOp.eql (AV.at x0 (ys257.getD 0 default) 0) x1)) →
      ((AV.binOk Go.BinOp.add (ys257.getD 0 default) (AV.int 1)) ∧
      (again257 [(AV.bin Go.BinOp.add (ys257.getD 0 default) (AV.int 1))]))))))))) ∧
  ((isF (AV.bin Go.BinOp.lss (ys257.getD 0 default) (AV.len x0))) →
    ((AV.flat (AV.bool false)) ∧
    (fSame (AV.bool false) r))))))))) := by kernel_rfl
theorem cont_form (x0 x1 r : AV) : fnF Try.prog Γ ann 3 31 Try.f31 (Try.f31.body.getD .skip) (.nil) [x0, x1] (.sc) r = (((fEnt Try.prog 40) ∧
(fAllV fun _ => ((AV.isSl x0 1) ∧
(fLoop 513 [(AV.int 0)] fun ys513 again513 =>
  ((AV.binOk Go.BinOp.lss (ys513.getD 0 default) (AV.len x0)) ∧
  ((AV.isBool (AV.bin Go.BinOp.lss (ys513.getD 0 default) (AV.len x0))) ∧
  (((isT (AV.bin Go.BinOp.lss (ys513.getD 0 default) (AV.len x0))) →
    ((AV.isSl x0 1) ∧
    ((AV.inb x0 (ys513.getD 0 default)) ∧
    ((AV.binOk Go.BinOp.eql x1 (AV.at x0 (ys513.getD 0 default) 0)) ∧
    ((AV.isBool (AV.bin Go.BinOp.eql x1 (AV.at x0 (ys513.getD 0 default) 0))) ∧
    (((isT (AV.bin Go.BinOp.eql x1 (AV.at x0 (ys513.getD 0 default) 0))) →
      ((AV.binOk Go.BinOp.geq (ys513.getD 0 default) (AV.int 0)) ∧
      ((AV.flat (AV.bin Go.BinOp.geq (ys513.getD 0 default) (AV.int 0))) ∧
      (fSame (AV.bin Go.BinOp.geq (ys513.getD 0 default) (AV.int 0)) r)))) ∧
    ((isF (AV.bin Go.BinOp.eql x1 (AV.at x0 (ys513.getD 0 default) 0))) →
      ((AV.binOk Go.BinOp.add (ys513.getD 0 default) (AV.int 1)) ∧
      (again513 [(AV.bin Go.BinOp.add (ys513.getD 0 default) (AV.int 1))]))))))))) ∧
  ((isF (AV.bin Go.BinOp.lss (ys513.getD 0 default) (AV.len x0))) →
    ((AV.flat (AV.bool false)) ∧
    (fSame (AV.bool false) r))))))))))) := by kernel_rfl
theorem index_form (x0 x1 r : AV) : fnF Try.prog Γ ann 3 33 Try.f33 (Try.f33.body.getD .skip) (.nil) [x0, x1] (.sc) r = (((AV.isOne x1) ∧
((fEnt Try.prog 44) ∧
(fAllV fun _ => ((AV.isSl x0 2) ∧
(fLoop 577 [(AV.int 0)] fun ys577 again577 =>
  ((AV.binOk Go.BinOp.lss (ys577.getD 0 default) (AV.len x0)) ∧
  ((AV.isBool (AV.bin Go.BinOp.lss (ys577.getD 0 default) (AV.len x0))) ∧
  (((isT (AV.bin Go.BinOp.lss (ys577.getD 0 default) (AV.len x0))) →
    ((AV.isSl x0 2) ∧
    ((AV.inb x0 (ys577.getD 0 default)) ∧
    ((fEnt Try.prog 45) ∧
    (fAllV fun _ => ((AV.isAgg (AV.atAgg x0 (ys577.getD 0 default) 0 2) 2) ∧
    ((AV.binOk Go.BinOp.eql (AV.cel (AV.atAgg x0 (ys577.getD 0 default) 0 2) 0) x1) ∧
    ((AV.isBool (AV.bin Go.BinOp.eql (AV.cel (AV.atAgg x0 (ys577.getD 0 default) 0 2) 0) x1)) ∧
    (((isT (AV.bin Go.BinOp.eql (AV.cel (AV.atAgg x0 (ys577.getD 0 default) 0 2) 0) x1)) →
      ((AV.flat (ys577.getD 0 default)) ∧
      (fSame (ys577.getD 0 default) r))) ∧
    ((isF (AV.bin Go.BinOp.eql (AV.cel (AV.atAgg x0 (ys577.getD 0 default) 0 2) 0) x1)) →
      ((AV.binOk Go.BinOp.add (ys577.getD 0 default) (AV.int 1)) ∧
      (again577 [(AV.bin Go.BinOp.add (ys577.getD 0 default) (AV.int 1))])))))))))))) ∧
  ((isF (AV.bin Go.BinOp.lss (ys577.getD 0 default) (AV.len x0))) →
    ((AV.flat (AV.int (-1))) ∧
    (fSame (AV.int (-1)) r)))))))))))) := by kernel_rfl
theorem find_form (x0 x1 r : AV) : fnF Try.prog Γ ann 3 39 Try.f39 (Try.f39.body.getD .skip) (.nil) [x0, x1] (.sc) r = (((AV.isSl x0 2) ∧
(fLoop 257 [(AV.int 0)] fun ys257 again257 =>
  ((AV.binOk Go.BinOp.lss (ys257.getD 0 default) (AV.len x0)) ∧
  ((AV.isBool (AV.bin Go.BinOp.lss (ys257.getD 0 default) (AV.len x0))) ∧
  (((isT (AV.bin Go.BinOp.lss (ys257.getD 0 default) (AV.len x0))) →
    ((AV.isSl x0 2) ∧
    ((AV.inb x0 (ys257.getD 0 default)) ∧
    ((AV.isAgg (AV.atAgg x0 (ys257.getD 0 default) 0 2) 2) ∧
    (∃ r769 : AV, ((Fn Try.prog 31 [(AV.cel (AV.atAgg x0 (ys257.getD 0 default) 0 2) 1), x1] Sh.sc r769) ∧
    ((AV.isBool r769) ∧
    (((isT r769) →
      ((AV.flat (AV.cel (AV.atAgg x0 (ys257.getD 0 default) 0 2) 0)) ∧
      (fSame (AV.cel (AV.atAgg x0 (ys257.getD 0 default) 0 2) 0) r))) ∧
    ((isF r769) →
      ((AV.binOk Go.BinOp.add (ys257.getD 0 default) (AV.int 1)) ∧
      (again257 [(AV.bin Go.BinOp.add (ys257.getD 0 default) (AV.int 1))]))))))))))) ∧
  ((isF (AV.bin Go.BinOp.lss (ys257.getD 0 default) (AV.len x0))) →
    ((AV.flat (AV.lit (Value.string ⟨#[]⟩))) ∧
    (fSame (AV.lit (Value.string ⟨#[]⟩)) r))))))))) := by kernel_rfl
theorem gof_form (x0 x1 r : AV) : fnF Try.prog Γ ann 3 21 Try.f21 (Try.f21.body.getD .skip) (.nil) [x0, x1] (.sc) r = (((AV.isSl x0 2) ∧
(fLoop 257 [(AV.int 0)] fun ys257 again257 =>
  ((AV.binOk Go.BinOp.lss (ys257.getD 0 default) (AV.len x0)) ∧
  ((AV.isBool (AV.bin Go.BinOp.lss (ys257.getD 0 default) (AV.len x0))) ∧
  (((isT (AV.bin Go.BinOp.lss (ys257.getD 0 default) (AV.len x0))) →
    ((AV.isSl x0 2) ∧
    ((AV.inb x0 (ys257.getD 0 default)) ∧
    ((AV.isAgg (AV.atAgg x0 (ys257.getD 0 default) 0 2) 2) ∧
    (∃ r769 : AV, ((Fn Try.prog 13 [(AV.cel (AV.atAgg x0 (ys257.getD 0 default) 0 2) 1), x1] Sh.sc r769) ∧
    ((AV.isBool r769) ∧
    (((isT r769) →
      ((AV.flat (AV.cel (AV.atAgg x0 (ys257.getD 0 default) 0 2) 0)) ∧
      (fSame (AV.cel (AV.atAgg x0 (ys257.getD 0 default) 0 2) 0) r))) ∧
    ((isF r769) →
      ((AV.binOk Go.BinOp.add (ys257.getD 0 default) (AV.int 1)) ∧
      (again257 [(AV.bin Go.BinOp.add (ys257.getD 0 default) (AV.int 1))]))))))))))) ∧
  ((isF (AV.bin Go.BinOp.lss (ys257.getD 0 default) (AV.len x0))) →
    ((AV.flat (AV.lit (Value.string ⟨#[]⟩))) ∧
    (fSame (AV.lit (Value.string ⟨#[]⟩)) r))))))))) := by kernel_rfl
theorem same_form (x0 x1 r : AV) : fnF Try.prog Γ ann 3 14 Try.f14 (Try.f14.body.getD .skip) (.nil) [x0, x1] (.sc) r = (((AV.isSl x0 2) ∧
((AV.isSl x1 2) ∧
((AV.binOk Go.BinOp.neq (AV.len x0) (AV.len x1)) ∧
((AV.isBool (AV.bin Go.BinOp.neq (AV.len x0) (AV.len x1))) ∧
(((isT (AV.bin Go.BinOp.neq (AV.len x0) (AV.len x1))) →
  ((AV.flat (AV.bool false)) ∧
  (fSame (AV.bool false) r))) ∧
((isF (AV.bin Go.BinOp.neq (AV.len x0) (AV.len x1))) →
  ((AV.isSl x0 2) ∧
  (fLoop 577 [(AV.int 0)] fun ys577 again577 =>
    ((AV.binOk Go.BinOp.lss (ys577.getD 0 default) (AV.len x0)) ∧
    ((AV.isBool (AV.bin Go.BinOp.lss (ys577.getD 0 default) (AV.len x0))) ∧
    (((isT (AV.bin Go.BinOp.lss (ys577.getD 0 default) (AV.len x0))) →
      ((AV.isSl x0 2) ∧
      ((AV.inb x0 (ys577.getD 0 default)) ∧
      ((AV.isSl x1 2) ∧
      ((AV.inb x1 (ys577.getD 0 default)) ∧
      ((AV.binOk Go.BinOp.neq (AV.at x0 (ys577.getD 0 default) 0) (AV.at x1 (ys577.getD 0 default) 0)) ∧
      ((AV.isBool (AV.bin Go.BinOp.neq (AV.at x0 (ys577.getD 0 default) 0) (AV.at x1 (ys577.getD 0 default) 0))) ∧
      (((isT (AV.bin Go.BinOp.neq (AV.at x0 (ys577.getD 0 default) 0) (AV.at x1 (ys577.getD 0 default) 0))) →
        ((AV.isBool (AV.bin Go.BinOp.neq (AV.at x0 (ys577.getD 0 default) 0) (AV.at x1 (ys577.getD 0 default) 0))) ∧
        ((isT (AV.bin Go.BinOp.neq (AV.at x0 (ys577.getD 0 default) 0) (AV.at x1 (ys577.getD 0 default) 0))) ∧
        ((AV.flat (AV.bool false)) ∧
        (fSame (AV.bool false) r))))) ∧
      ((isF (AV.bin Go.BinOp.neq (AV.at x0 (ys577.getD 0 default) 0) (AV.at x1 (ys577.getD 0 default) 0))) →
        ((AV.isSl x0 2) ∧
        ((AV.inb x0 (ys577.getD 0 default)) ∧
        ((AV.isSl (AV.at x0 (ys577.getD 0 default) 1) 1) ∧
        ((AV.isSl x1 2) ∧
        ((AV.inb x1 (ys577.getD 0 default)) ∧
        ((AV.isSl (AV.at x1 (ys577.getD 0 default) 1) 1) ∧
        ((AV.binOk Go.BinOp.neq (AV.len (AV.at x0 (ys577.getD 0 default) 1)) (AV.len (AV.at x1 (ys577.getD 0 default) 1))) ∧
        ((AV.isBool (AV.bin Go.BinOp.neq (AV.at x0 (ys577.getD 0 default) 0) (AV.at x1 (ys577.getD 0 default) 0))) ∧
        ((isF (AV.bin Go.BinOp.neq (AV.at x0 (ys577.getD 0 default) 0) (AV.at x1 (ys577.getD 0 default) 0))) ∧
        ((AV.isBool (AV.bin Go.BinOp.neq (AV.len (AV.at x0 (ys577.getD 0 default) 1)) (AV.len (AV.at x1 (ys577.getD 0 default) 1)))) ∧
        (((isT (AV.bin Go.BinOp.neq (AV.len (AV.at x0 (ys577.getD 0 default) 1)) (AV.len (AV.at x1 (ys577.getD 0 default) 1)))) →
          ((AV.flat (AV.bool false)) ∧
          (fSame (AV.bool false) r))) ∧
        ((isF (AV.bin Go.BinOp.neq (AV.len (AV.at x0 (ys577.getD 0 default) 1)) (AV.len (AV.at x1 (ys577.getD 0 default) 1)))) →
          ((AV.isSl x0 2) ∧
          ((AV.inb x0 (ys577.getD 0 default)) ∧
          ((AV.isSl (AV.at x0 (ys577.getD 0 default) 1) 1) ∧
          (fLoop 2881 [(AV.int 0)] fun ys2881 again2881 =>
            ((AV.binOk Go.BinOp.lss (ys2881.getD 0 default) (AV.len (AV.at x0 (ys577.getD 0 default) 1))) ∧
            ((AV.isBool (AV.bin Go.BinOp.lss (ys2881.getD 0 default) (AV.len (AV.at x0 (ys577.getD 0 default) 1)))) ∧
            (((isT (AV.bin Go.BinOp.lss (ys2881.getD 0 default) (AV.len (AV.at x0 (ys577.getD 0 default) 1)))) →
              ((AV.isSl x0 2) ∧
              ((AV.inb x0 (ys577.getD 0 default)) ∧
              ((AV.isSl (AV.at x0 (ys577.getD 0 default) 1) 1) ∧
              ((AV.inb (AV.at x0 (ys577.getD 0 default) 1) (ys2881.getD 0 default)) ∧
              ((AV.isSl x1 2) ∧
              ((AV.inb x1 (ys577.getD 0 default)) ∧
              ((AV.isSl (AV.at x1 (ys577.getD 0 default) 1) 1) ∧
              ((AV.inb (AV.at x1 (ys577.getD 0 default) 1) (ys2881.getD 0 default)) ∧
              ((AV.binOk Go.BinOp.neq (AV.at (AV.at x0 (ys577.getD 0 default) 1) (ys2881.getD 0 default) 0) (AV.at (AV.at x1 (ys577.getD 0 default) 1) (ys2881.getD 0 default) 0)) ∧
              ((AV.isBool (AV.bin Go.BinOp.neq (AV.at (AV.at x0 (ys577.getD 0 default) 1) (ys2881.getD 0 default) 0) (AV.at (AV.at x1 (ys577.getD 0 default) 1) (ys2881.getD 0 default) 0))) ∧
              (((isT (AV.bin Go.BinOp.neq (AV.at (AV.at x0 (ys577.getD 0 default) 1) (ys2881.getD 0 default) 0) (AV.at (AV.at x1 (ys577.getD 0 default) 1) (ys2881.getD 0 default) 0))) →
                ((AV.flat (AV.bool false)) ∧
                (fSame (AV.bool false) r))) ∧
              ((isF (AV.bin Go.BinOp.neq (AV.at (AV.at x0 (ys577.getD 0 default) 1) (ys2881.getD 0 default) 0) (AV.at (AV.at x1 (ys577.getD 0 default) 1) (ys2881.getD 0 default) 0))) →
                ((AV.binOk Go.BinOp.add (ys2881.getD 0 default) (AV.int 1)) ∧
                (again2881 [(AV.bin Go.BinOp.add (ys2881.getD 0 default) (AV.int 1))]))))))))))))))) ∧
            ((isF (AV.bin Go.BinOp.lss (ys2881.getD 0 default) (AV.len (AV.at x0 (ys577.getD 0 default) 1)))) →
              ((AV.binOk Go.BinOp.add (ys577.getD 0 default) (AV.int 1)) ∧
              (again577 [(AV.bin Go.BinOp.add (ys577.getD 0 default) (AV.int 1))]))))))))))))))))))))))))))))))) ∧
    ((isF (AV.bin Go.BinOp.lss (ys577.getD 0 default) (AV.len x0))) →
      ((AV.flat (AV.bool true)) ∧
      (fSame (AV.bool true) r))))))))))))))) := by kernel_rfl
theorem pos_form (x0 x1 r : AV) : fnF Try.prog Γ ann 3 18 Try.f18 (Try.f18.body.getD .skip) (.nil) [x0, x1] (.sc) r = (((AV.isSl x0 2) ∧
(fLoop 257 [(AV.int 0)] fun ys257 again257 =>
  ((AV.binOk Go.BinOp.lss (ys257.getD 0 default) (AV.len x0)) ∧
  ((AV.isBool (AV.bin Go.BinOp.lss (ys257.getD 0 default) (AV.len x0))) ∧
  (((isT (AV.bin Go.BinOp.lss (ys257.getD 0 default) (AV.len x0))) →
    ((AV.isSl x0 2) ∧
    ((AV.inb x0 (ys257.getD 0 default)) ∧
    ((AV.isAgg (AV.atAgg x0 (ys257.getD 0 default) 0 2) 2) ∧
    ((AV.binOk Go.BinOp.eql (AV.cel (AV.atAgg x0 (ys257.getD 0 default) 0 2) 0) x1) ∧
    ((AV.isBool (AV.bin Go.BinOp.eql (AV.cel (AV.atAgg x0 (ys257.getD 0 default) 0 2) 0) x1)) ∧
    (((isT (AV.bin Go.BinOp.eql (AV.cel (AV.atAgg x0 (ys257.getD 0 default) 0 2) 0) x1)) →
      ((AV.flat (AV.bool true)) ∧
      (fSame (AV.bool true) r))) ∧
    ((isF (AV.bin Go.BinOp.eql (AV.cel (AV.atAgg x0 (ys257.getD 0 default) 0 2) 0) x1)) →
      ((AV.binOk Go.BinOp.add (ys257.getD 0 default) (AV.int 1)) ∧
      (again257 [(AV.bin Go.BinOp.add (ys257.getD 0 default) (AV.int 1))])))))))))) ∧
  ((isF (AV.bin Go.BinOp.lss (ys257.getD 0 default) (AV.len x0))) →
    ((AV.flat (AV.bool false)) ∧
    (fSame (AV.bool false) r))))))))) := by kernel_rfl
theorem eqs_form (x0 x1 r : AV) : fnF Try.prog Γ ann 3 26 Try.f26 (Try.f26.body.getD .skip) (.nil) [x0, x1] (.sc) r = (((AV.isSl x0 1) ∧
((AV.isSl x1 1) ∧
((AV.binOk Go.BinOp.neq (AV.len x0) (AV.len x1)) ∧
((AV.isBool (AV.bin Go.BinOp.neq (AV.len x0) (AV.len x1))) ∧
(((isT (AV.bin Go.BinOp.neq (AV.len x0) (AV.len x1))) →
  ((AV.flat (AV.bool false)) ∧
  (fSame (AV.bool false) r))) ∧
((isF (AV.bin Go.BinOp.neq (AV.len x0) (AV.len x1))) →
  ((AV.isSl x0 1) ∧
  (fLoop 577 [(AV.int 0)] fun ys577 again577 =>
    ((AV.binOk Go.BinOp.lss (ys577.getD 0 default) (AV.len x0)) ∧
    ((AV.isBool (AV.bin Go.BinOp.lss (ys577.getD 0 default) (AV.len x0))) ∧
    (((isT (AV.bin Go.BinOp.lss (ys577.getD 0 default) (AV.len x0))) →
      ((AV.isSl x0 1) ∧
      ((AV.inb x0 (ys577.getD 0 default)) ∧
      ((AV.isSl x1 1) ∧
      ((AV.inb x1 (ys577.getD 0 default)) ∧
      ((AV.binOk Go.BinOp.neq (AV.at x0 (ys577.getD 0 default) 0) (AV.at x1 (ys577.getD 0 default) 0)) ∧
      ((AV.isBool (AV.bin Go.BinOp.neq (AV.at x0 (ys577.getD 0 default) 0) (AV.at x1 (ys577.getD 0 default) 0))) ∧
      (((isT (AV.bin Go.BinOp.neq (AV.at x0 (ys577.getD 0 default) 0) (AV.at x1 (ys577.getD 0 default) 0))) →
        ((AV.flat (AV.bool false)) ∧
        (fSame (AV.bool false) r))) ∧
      ((isF (AV.bin Go.BinOp.neq (AV.at x0 (ys577.getD 0 default) 0) (AV.at x1 (ys577.getD 0 default) 0))) →
        ((AV.binOk Go.BinOp.add (ys577.getD 0 default) (AV.int 1)) ∧
        (again577 [(AV.bin Go.BinOp.add (ys577.getD 0 default) (AV.int 1))]))))))))))) ∧
    ((isF (AV.bin Go.BinOp.lss (ys577.getD 0 default) (AV.len x0))) →
      ((AV.flat (AV.bool true)) ∧
      (fSame (AV.bool true) r))))))))))))))) := by kernel_rfl
theorem eqm_form (x0 x1 r : AV) : fnF Try.prog Γ ann 3 29 Try.f29 (Try.f29.body.getD .skip) (.nil) [x0, x1] (.sc) r = (((AV.isSl x0 3) ∧
((AV.isSl x1 3) ∧
((AV.binOk Go.BinOp.neq (AV.len x0) (AV.len x1)) ∧
((AV.isBool (AV.bin Go.BinOp.neq (AV.len x0) (AV.len x1))) ∧
(((isT (AV.bin Go.BinOp.neq (AV.len x0) (AV.len x1))) →
  ((AV.flat (AV.bool false)) ∧
  (fSame (AV.bool false) r))) ∧
((isF (AV.bin Go.BinOp.neq (AV.len x0) (AV.len x1))) →
  ((AV.isSl x0 3) ∧
  (fLoop 577 [(AV.int 0)] fun ys577 again577 =>
    ((AV.binOk Go.BinOp.lss (ys577.getD 0 default) (AV.len x0)) ∧
    ((AV.isBool (AV.bin Go.BinOp.lss (ys577.getD 0 default) (AV.len x0))) ∧
    (((isT (AV.bin Go.BinOp.lss (ys577.getD 0 default) (AV.len x0))) →
      ((AV.isSl x0 3) ∧
      ((AV.inb x0 (ys577.getD 0 default)) ∧
      ((AV.isSl x1 3) ∧
      ((AV.inb x1 (ys577.getD 0 default)) ∧
      ((AV.eqPlOk [(0, EK.str), (1, EK.str), (2, EK.str)] [(AV.cel (AV.atAgg x0 (ys577.getD 0 default) 0 3) 0), (AV.cel (AV.atAgg x0 (ys577.getD 0 default) 0 3) 1), (AV.cel (AV.atAgg x0 (ys577.getD 0 default) 0 3) 2)] [(AV.cel (AV.atAgg x1 (ys577.getD 0 default) 0 3) 0), (AV.cel (AV.atAgg x1 (ys577.getD 0 default) 0 3) 1), (AV.cel (AV.atAgg x1 (ys577.getD 0 default) 0 3) 2)]) ∧
      ((AV.isAgg (AV.atAgg x0 (ys577.getD 0 default) 0 3) 3) ∧
      ((AV.isAgg (AV.atAgg x1 (ys577.getD 0 default) 0 3) 3) ∧
      ((AV.isBool (AV.nePl [(0, EK.str), (1, EK.str), (2, EK.str)] [(AV.cel (AV.atAgg x0 (ys577.getD 0 default) 0 3) 0), (AV.cel (AV.atAgg x0 (ys577.getD 0 default) 0 3) 1), (AV.cel (AV.atAgg x0 (ys577.getD 0 default) 0 3) 2)] [(AV.cel (AV.atAgg x1 (ys577.getD 0 default) 0 3) 0), (AV.cel (AV.atAgg x1 (ys577.getD 0 default) 0 3) 1), (AV.cel (AV.atAgg x1 (ys577.getD 0 default) 0 3) 2)])) ∧
      (((isT (AV.nePl [(0, EK.str), (1, EK.str), (2, EK.str)] [(AV.cel (AV.atAgg x0 (ys577.getD 0 default) 0 3) 0), (AV.cel (AV.atAgg x0 (ys577.getD 0 default) 0 3) 1), (AV.cel (AV.atAgg x0 (ys577.getD 0 default) 0 3) 2)] [(AV.cel (AV.atAgg x1 (ys577.getD 0 default) 0 3) 0), (AV.cel (AV.atAgg x1 (ys577.getD 0 default) 0 3) 1), (AV.cel (AV.atAgg x1 (ys577.getD 0 default) 0 3) 2)])) →
        ((AV.flat (AV.bool false)) ∧
        (fSame (AV.bool false) r))) ∧
      ((isF (AV.nePl [(0, EK.str), (1, EK.str), (2, EK.str)] [(AV.cel (AV.atAgg x0 (ys577.getD 0 default) 0 3) 0), (AV.cel (AV.atAgg x0 (ys577.getD 0 default) 0 3) 1), (AV.cel (AV.atAgg x0 (ys577.getD 0 default) 0 3) 2)] [(AV.cel (AV.atAgg x1 (ys577.getD 0 default) 0 3) 0), (AV.cel (AV.atAgg x1 (ys577.getD 0 default) 0 3) 1), (AV.cel (AV.atAgg x1 (ys577.getD 0 default) 0 3) 2)])) →
        ((AV.binOk Go.BinOp.add (ys577.getD 0 default) (AV.int 1)) ∧
        (again577 [(AV.bin Go.BinOp.add (ys577.getD 0 default) (AV.int 1))]))))))))))))) ∧
    ((isF (AV.bin Go.BinOp.lss (ys577.getD 0 default) (AV.len x0))) →
      ((AV.flat (AV.bool true)) ∧
      (fSame (AV.bool true) r))))))))))))))) := by kernel_rfl
theorem begin_form (x0 r : AV) : fnF Try.prog Γ ann 3 11 Try.f11 (Try.f11.body.getD .skip) (.nil) [x0] (.tup [.row 53 2 false, .sc]) r = (((AV.isSl x0 1) ∧
((AV.binOk Go.BinOp.gtr (AV.len x0) (AV.int 12)) ∧
((AV.isBool (AV.bin Go.BinOp.gtr (AV.len x0) (AV.int 12))) ∧
(((isT (AV.bin Go.BinOp.gtr (AV.len x0) (AV.int 12))) →
  ((AV.flat (AV.int 2)) ∧
  (fSame (AV.tup [(AV.mk 2 []), (AV.int 2)]) r))) ∧
((isF (AV.bin Go.BinOp.gtr (AV.len x0) (AV.int 12))) →
  ((AV.isSl x0 1) ∧
  (fLoop 577 [(AV.int 0), (AV.mk 2 [])] fun ys577 again577 =>
    ((AV.binOk Go.BinOp.lss (ys577.getD 0 default) (AV.len x0)) ∧
    ((AV.isBool (AV.bin Go.BinOp.lss (ys577.getD 0 default) (AV.len x0))) ∧
    (((isT (AV.bin Go.BinOp.lss (ys577.getD 0 default) (AV.len x0))) →
      ((AV.isSl x0 1) ∧
      ((AV.inb x0 (ys577.getD 0 default)) ∧
      (∃ r1025 : AV, ((Fn Try.prog 30 [(AV.at x0 (ys577.getD 0 default) 0)] Sh.sc r1025) ∧
      ((AV.unOk Go.UnOp.not r1025) ∧
      ((AV.isBool (AV.un Go.UnOp.not r1025)) ∧
      (((isT (AV.un Go.UnOp.not r1025)) →
        ((AV.flat (AV.int 3)) ∧
        (fSame (AV.tup [(AV.mk 2 []), (AV.int 3)]) r))) ∧
      ((isF (AV.un Go.UnOp.not r1025)) →
        ((AV.isSl x0 1) ∧
        ((AV.subOk x0 (AV.int 0) (ys577.getD 0 default)) ∧
        (∃ r1409 : AV, ((Fn Try.prog 31 [(AV.sub 1 x0 (AV.int 0) (ys577.getD 0 default)), (AV.at x0 (ys577.getD 0 default) 0)] Sh.sc r1409) ∧
        ((AV.isBool r1409) ∧
        (((isT r1409) →
          ((AV.flat (AV.int 7)) ∧
          (fSame (AV.tup [(AV.mk 2 []), (AV.int 7)]) r))) ∧
        ((isF r1409) →
          ((AV.isOne (AV.at x0 (ys577.getD 0 default) 0)) ∧
          ((AV.isOne (AV.at x0 (ys577.getD 0 default) 0)) ∧
          ((AV.room (ys577.getD 1 default) (AV.mk 2 [[(AV.at x0 (ys577.getD 0 default) 0), (AV.mk 1 [[(AV.at x0 (ys577.getD 0 default) 0)]])]]) 40) ∧
          ((AV.binOk Go.BinOp.add (ys577.getD 0 default) (AV.int 1)) ∧
          (again577 [(AV.bin Go.BinOp.add (ys577.getD 0 default) (AV.int 1)), (AV.app 2 (ys577.getD 1 default) (AV.mk 2 [[(AV.at x0 (ys577.getD 0 default) 0), (AV.mk 1 [[(AV.at x0 (ys577.getD 0 default) 0)]])]]))]))))))))))))))))))))) ∧
    ((isF (AV.bin Go.BinOp.lss (ys577.getD 0 default) (AV.len x0))) →
      ((fEnt Try.prog 32) ∧
      (fAllV fun _ => (∃ r833 : AV, ((FnU Try.prog 41 53 2 (ys577.getD 1 default) [(AV.mkClo 42 [])] false r833) ∧
      ((AV.flat (AV.int 0)) ∧
      (fSame (AV.tup [r833, (AV.int 0)]) r)))))))))))))))))) := by kernel_rfl
theorem position_form (x0 x1 r : AV) : fnF Try.prog Γ ann 3 24 Try.f24 (Try.f24.body.getD .skip) (.nil) [x0, x1] (.tup [.sc, .sc]) r = ((∃ r193 : AV, ((Fn Try.prog 9 [x0] Sh.sc r193) ∧
((AV.binOk Go.BinOp.neq r193 (AV.int 0)) ∧
((AV.isBool (AV.bin Go.BinOp.neq r193 (AV.int 0))) ∧
(((isT (AV.bin Go.BinOp.neq r193 (AV.int 0))) →
  ((AV.flat (AV.lit (Value.string ⟨#[]⟩))) ∧
  ((AV.flat r193) ∧
  (fSame (AV.tup [(AV.lit (Value.string ⟨#[]⟩)), r193]) r)))) ∧
((isF (AV.bin Go.BinOp.neq r193 (AV.int 0))) →
  (∃ r577 : AV, ((Fn Try.prog 39 [x0, x1] Sh.sc r577) ∧
  ((AV.binOk Go.BinOp.eql r577 (AV.lit (Value.string ⟨#[]⟩))) ∧
  ((AV.isBool (AV.bin Go.BinOp.eql r577 (AV.lit (Value.string ⟨#[]⟩)))) ∧
  (((isT (AV.bin Go.BinOp.eql r577 (AV.lit (Value.string ⟨#[]⟩)))) →
    ((AV.flat (AV.lit (Value.string ⟨#[]⟩))) ∧
    ((AV.flat (AV.int 8)) ∧
    (fSame (AV.tup [(AV.lit (Value.string ⟨#[]⟩)), (AV.int 8)]) r)))) ∧
  ((isF (AV.bin Go.BinOp.eql r577 (AV.lit (Value.string ⟨#[]⟩)))) →
    ((AV.flat r577) ∧
    ((AV.flat (AV.int 0)) ∧
    (fSame (AV.tup [r577, (AV.int 0)]) r)))))))))))))))) := by kernel_rfl
theorem names_form (x0 r : AV) : fnF Try.prog Γ ann 3 25 Try.f25 (Try.f25.body.getD .skip) (.nil) [x0] (.tup [.row 9 1 true, .sc]) r = ((∃ r193 : AV, ((Fn Try.prog 9 [x0] Sh.sc r193) ∧
((AV.binOk Go.BinOp.neq r193 (AV.int 0)) ∧
((AV.isBool (AV.bin Go.BinOp.neq r193 (AV.int 0))) ∧
(((isT (AV.bin Go.BinOp.neq r193 (AV.int 0))) →
  ((AV.flatS (AV.mk 1 [])) ∧
  ((AV.flat r193) ∧
  (fSame (AV.tup [(AV.mk 1 []), r193]) r)))) ∧
((isF (AV.bin Go.BinOp.neq r193 (AV.int 0))) →
  ((AV.isSl x0 2) ∧
  (fLoop 705 [(AV.int 0), (AV.mk 1 [])] fun ys705 again705 =>
    ((AV.binOk Go.BinOp.lss (ys705.getD 0 default) (AV.len x0)) ∧
    ((AV.isBool (AV.bin Go.BinOp.lss (ys705.getD 0 default) (AV.len x0))) ∧
    (((isT (AV.bin Go.BinOp.lss (ys705.getD 0 default) (AV.len x0))) →
      ((AV.isSl x0 2) ∧
      ((AV.inb x0 (ys705.getD 0 default)) ∧
      ((AV.isAgg (AV.atAgg x0 (ys705.getD 0 default) 0 2) 2) ∧
      ((AV.isSl (AV.cel (AV.atAgg x0 (ys705.getD 0 default) 0 2) 1) 1) ∧
      ((AV.room (ys705.getD 1 default) (AV.cel (AV.atAgg x0 (ys705.getD 0 default) 0 2) 1) 16) ∧
      ((AV.binOk Go.BinOp.add (ys705.getD 0 default) (AV.int 1)) ∧
      (again705 [(AV.bin Go.BinOp.add (ys705.getD 0 default) (AV.int 1)), (AV.app 1 (ys705.getD 1 default) (AV.cel (AV.atAgg x0 (ys705.getD 0 default) 0 2) 1))])))))))) ∧
    ((isF (AV.bin Go.BinOp.lss (ys705.getD 0 default) (AV.len x0))) →
      (∃ r833 : AV, ((FnU Try.prog 35 9 1 (ys705.getD 1 default) [] false r833) ∧
      ((AV.flatS r833) ∧
      ((AV.flat (AV.int 0)) ∧
      (fSame (AV.tup [r833, (AV.int 0)]) r)))))))))))))))))) := by kernel_rfl
theorem moves_form (x0 x1 r : AV) : fnF Try.prog Γ ann 3 28 Try.f28 (Try.f28.body.getD .skip) (.nil) [x0, x1] (.tup [.row 56 3 true, .sc]) r = ((∃ r193 : AV, ((Fn Try.prog 25 [x0] (Sh.tup [(Sh.row 9 1 true), Sh.sc]) r193) ∧
((AV.binOk Go.BinOp.neq (AV.prj r193 1) (AV.int 0)) ∧
((AV.isBool (AV.bin Go.BinOp.neq (AV.prj r193 1) (AV.int 0))) ∧
(((isT (AV.bin Go.BinOp.neq (AV.prj r193 1) (AV.int 0))) →
  ((AV.flatS (AV.mk 3 [])) ∧
  ((AV.flat (AV.prj r193 1)) ∧
  (fSame (AV.tup [(AV.mk 3 []), (AV.prj r193 1)]) r)))) ∧
((isF (AV.bin Go.BinOp.neq (AV.prj r193 1) (AV.int 0))) →
  (∃ r769 : AV, ((Fn Try.prog 25 [x1] (Sh.tup [(Sh.row 9 1 true), Sh.sc]) r769) ∧
  ((AV.binOk Go.BinOp.neq (AV.prj r769 1) (AV.int 0)) ∧
  ((AV.isBool (AV.bin Go.BinOp.neq (AV.prj r769 1) (AV.int 0))) ∧
  (((isT (AV.bin Go.BinOp.neq (AV.prj r769 1) (AV.int 0))) →
    ((AV.flatS (AV.mk 3 [])) ∧
    ((AV.flat (AV.prj r769 1)) ∧
    (fSame (AV.tup [(AV.mk 3 []), (AV.prj r769 1)]) r)))) ∧
  ((isF (AV.bin Go.BinOp.neq (AV.prj r769 1) (AV.int 0))) →
    (∃ r1409 : AV, ((Fn Try.prog 26 [(AV.prj r193 0), (AV.prj r769 0)] Sh.sc r1409) ∧
    ((AV.unOk Go.UnOp.not r1409) ∧
    ((AV.isBool (AV.un Go.UnOp.not r1409)) ∧
    (((isT (AV.un Go.UnOp.not r1409)) →
      ((AV.flatS (AV.mk 3 [])) ∧
      ((AV.flat (AV.int 19)) ∧
      (fSame (AV.tup [(AV.mk 3 []), (AV.int 19)]) r)))) ∧
    ((isF (AV.un Go.UnOp.not r1409)) →
      (fLoop 1793 [(AV.int 0), (AV.mk 3 [])] fun ys1793 again1793 =>
        ((AV.binOk Go.BinOp.lss (ys1793.getD 0 default) (AV.len (AV.prj r193 0))) ∧
        ((AV.isBool (AV.bin Go.BinOp.lss (ys1793.getD 0 default) (AV.len (AV.prj r193 0)))) ∧
        (((isT (AV.bin Go.BinOp.lss (ys1793.getD 0 default) (AV.len (AV.prj r193 0)))) →
          ((AV.inb (AV.prj r193 0) (ys1793.getD 0 default)) ∧
          ((AV.inb (AV.prj r193 0) (ys1793.getD 0 default)) ∧
          (∃ r2177 : AV, ((Fn Try.prog 39 [x0, (AV.at (AV.prj r193 0) (ys1793.getD 0 default) 0)] Sh.sc r2177) ∧
          (∃ r2369 : AV, ((Fn Try.prog 39 [x1, (AV.at (AV.prj r193 0) (ys1793.getD 0 default) 0)] Sh.sc r2369) ∧
          ((AV.binOk Go.BinOp.neq r2177 r2369) ∧
          ((AV.isBool (AV.bin Go.BinOp.neq r2177 r2369)) ∧
          (((isT (AV.bin Go.BinOp.neq r2177 r2369)) →
            ((AV.isOne (AV.at (AV.prj r193 0) (ys1793.getD 0 default) 0)) ∧
            ((AV.isOne r2177) ∧
            ((AV.isOne r2369) ∧
            ((AV.room (ys1793.getD 1 default) (AV.mk 3 [[(AV.at (AV.prj r193 0) (ys1793.getD 0 default) 0), r2177, r2369]]) 48) ∧
            ((AV.binOk Go.BinOp.add (ys1793.getD 0 default) (AV.int 1)) ∧
            (again1793 [(AV.bin Go.BinOp.add (ys1793.getD 0 default) (AV.int 1)), (AV.app 3 (ys1793.getD 1 default) (AV.mk 3 [[(AV.at (AV.prj r193 0) (ys1793.getD 0 default) 0), r2177, r2369]]))]))))))) ∧
          ((isF (AV.bin Go.BinOp.neq r2177 r2369)) →
            ((AV.binOk Go.BinOp.add (ys1793.getD 0 default) (AV.int 1)) ∧
            (again1793 [(AV.bin Go.BinOp.add (ys1793.getD 0 default) (AV.int 1)), (ys1793.getD 1 default)]))))))))))))) ∧
        ((isF (AV.bin Go.BinOp.lss (ys1793.getD 0 default) (AV.len (AV.prj r193 0)))) →
          ((AV.flatS (ys1793.getD 1 default)) ∧
          ((AV.flat (AV.int 0)) ∧
          (fSame (AV.tup [(ys1793.getD 1 default), (AV.int 0)]) r))))))))))))))))))))))))))) := by kernel_rfl
theorem all_form (x0 r : AV) : fnF Try.prog Γ ann 3 19 Try.f19 (Try.f19.body.getD .skip) (.nil) [x0] (.row 9 1 true) r = (((AV.isSl x0 2) ∧
(fLoop 321 [(AV.int 0), (AV.mk 1 [])] fun ys321 again321 =>
  ((AV.binOk Go.BinOp.lss (ys321.getD 0 default) (AV.len x0)) ∧
  ((AV.isBool (AV.bin Go.BinOp.lss (ys321.getD 0 default) (AV.len x0))) ∧
  (((isT (AV.bin Go.BinOp.lss (ys321.getD 0 default) (AV.len x0))) →
    ((AV.isSl x0 2) ∧
    ((AV.inb x0 (ys321.getD 0 default)) ∧
    ((AV.isAgg (AV.atAgg x0 (ys321.getD 0 default) 0 2) 2) ∧
    ((AV.isSl (AV.cel (AV.atAgg x0 (ys321.getD 0 default) 0 2) 1) 1) ∧
    ((AV.room (ys321.getD 1 default) (AV.cel (AV.atAgg x0 (ys321.getD 0 default) 0 2) 1) 16) ∧
    ((AV.binOk Go.BinOp.add (ys321.getD 0 default) (AV.int 1)) ∧
    (again321 [(AV.bin Go.BinOp.add (ys321.getD 0 default) (AV.int 1)), (AV.app 1 (ys321.getD 1 default) (AV.cel (AV.atAgg x0 (ys321.getD 0 default) 0 2) 1))])))))))) ∧
  ((isF (AV.bin Go.BinOp.lss (ys321.getD 0 default) (AV.len x0))) →
    ((AV.flatS (ys321.getD 1 default)) ∧
    (fSame (ys321.getD 1 default) r))))))))) := by kernel_rfl
theorem sorted_form (x0 r : AV) : fnF Try.prog Γ ann 3 27 Try.f27 (Try.f27.body.getD .skip) (.nil) [x0] (.row 9 1 true) r = (((AV.isSl x0 1) ∧
(fLoop 321 [(AV.int 0), (AV.mk 1 [])] fun ys321 again321 =>
  ((AV.binOk Go.BinOp.lss (ys321.getD 0 default) (AV.len x0)) ∧
  ((AV.isBool (AV.bin Go.BinOp.lss (ys321.getD 0 default) (AV.len x0))) ∧
  (((isT (AV.bin Go.BinOp.lss (ys321.getD 0 default) (AV.len x0))) →
    ((AV.isSl x0 1) ∧
    ((AV.inb x0 (ys321.getD 0 default)) ∧
    (fLoop 641 [(AV.int 0)] fun ys641 again641 =>
      ((AV.binOk Go.BinOp.lss (ys641.getD 0 default) (AV.len (ys321.getD 1 default))) ∧
      ((AV.isBool (AV.bin Go.BinOp.lss (ys641.getD 0 default) (AV.len (ys321.getD 1 default)))) ∧
      (((isT (AV.bin Go.BinOp.lss (ys641.getD 0 default) (AV.len (ys321.getD 1 default)))) →
        ((AV.inb (ys321.getD 1 default) (ys641.getD 0 default)) ∧
        ((AV.inb (ys321.getD 1 default) (ys641.getD 0 default)) ∧
        ((AV.binOk Go.BinOp.leq (AV.at (ys321.getD 1 default) (ys641.getD 0 default) 0) (AV.at x0 (ys321.getD 0 default) 0)) ∧
        ((AV.isBool (AV.bin Go.BinOp.lss (ys641.getD 0 default) (AV.len (ys321.getD 1 default)))) ∧
        ((isT (AV.bin Go.BinOp.lss (ys641.getD 0 default) (AV.len (ys321.getD 1 default)))) ∧
        ((AV.isBool (AV.bin Go.BinOp.leq (AV.at (ys321.getD 1 default) (ys641.getD 0 default) 0) (AV.at x0 (ys321.getD 0 default) 0))) ∧
        (((isT (AV.bin Go.BinOp.leq (AV.at (ys321.getD 1 default) (ys641.getD 0 default) 0) (AV.at x0 (ys321.getD 0 default) 0))) →
          ((AV.binOk Go.BinOp.add (ys641.getD 0 default) (AV.int 1)) ∧
          (again641 [(AV.bin Go.BinOp.add (ys641.getD 0 default) (AV.int 1))]))) ∧
        ((isF (AV.bin Go.BinOp.leq (AV.at (ys321.getD 1 default) (ys641.getD 0 default) 0) (AV.at x0 (ys321.getD 0 default) 0))) →
          ((AV.subOk (ys321.getD 1 default) (AV.int 0) (ys641.getD 0 default)) ∧
          ((AV.isOne (AV.at x0 (ys321.getD 0 default) 0)) ∧
          ((AV.subOk (ys321.getD 1 default) (ys641.getD 0 default) (AV.len (ys321.getD 1 default))) ∧
          ((AV.subOk (ys321.getD 1 default) (ys641.getD 0 default) (AV.len (ys321.getD 1 default))) ∧
          ((AV.room (AV.mk 1 [[(AV.at x0 (ys321.getD 0 default) 0)]]) (AV.sub 1 (ys321.getD 1 default) (ys641.getD 0 default) (AV.len (ys321.getD 1 default))) 16) ∧
          ((AV.subOk (ys321.getD 1 default) (AV.int 0) (ys641.getD 0 default)) ∧
          ((AV.room (AV.sub 1 (ys321.getD 1 default) (AV.int 0) (ys641.getD 0 default)) (AV.app 1 (AV.mk 1 [[(AV.at x0 (ys321.getD 0 default) 0)]]) (AV.sub 1 (ys321.getD 1 default) (ys641.getD 0 default) (AV.len (ys321.getD 1 default)))) 16) ∧
          ((AV.binOk Go.BinOp.add (ys321.getD 0 default) (AV.int 1)) ∧
          (again321 [(AV.bin Go.BinOp.add (ys321.getD 0 default) (AV.int 1)), (AV.app 1 (AV.sub 1 (ys321.getD 1 default) (AV.int 0) (ys641.getD 0 default)) (AV.app 1 (AV.mk 1 [[(AV.at x0 (ys321.getD 0 default) 0)]]) (AV.sub 1 (ys321.getD 1 default) (ys641.getD 0 default) (AV.len (ys321.getD 1 default)))))])))))))))))))))))) ∧
      ((isF (AV.bin Go.BinOp.lss (ys641.getD 0 default) (AV.len (ys321.getD 1 default)))) →
        ((AV.isBool (AV.bin Go.BinOp.lss (ys641.getD 0 default) (AV.len (ys321.getD 1 default)))) ∧
        ((isF (AV.bin Go.BinOp.lss (ys641.getD 0 default) (AV.len (ys321.getD 1 default)))) ∧
        ((AV.subOk (ys321.getD 1 default) (AV.int 0) (ys641.getD 0 default)) ∧
        ((AV.isOne (AV.at x0 (ys321.getD 0 default) 0)) ∧
        ((AV.subOk (ys321.getD 1 default) (ys641.getD 0 default) (AV.len (ys321.getD 1 default))) ∧
        ((AV.subOk (ys321.getD 1 default) (ys641.getD 0 default) (AV.len (ys321.getD 1 default))) ∧
        ((AV.room (AV.mk 1 [[(AV.at x0 (ys321.getD 0 default) 0)]]) (AV.sub 1 (ys321.getD 1 default) (ys641.getD 0 default) (AV.len (ys321.getD 1 default))) 16) ∧
        ((AV.subOk (ys321.getD 1 default) (AV.int 0) (ys641.getD 0 default)) ∧
        ((AV.room (AV.sub 1 (ys321.getD 1 default) (AV.int 0) (ys641.getD 0 default)) (AV.app 1 (AV.mk 1 [[(AV.at x0 (ys321.getD 0 default) 0)]]) (AV.sub 1 (ys321.getD 1 default) (ys641.getD 0 default) (AV.len (ys321.getD 1 default)))) 16) ∧
        ((AV.binOk Go.BinOp.add (ys321.getD 0 default) (AV.int 1)) ∧
        (again321 [(AV.bin Go.BinOp.add (ys321.getD 0 default) (AV.int 1)), (AV.app 1 (AV.sub 1 (ys321.getD 1 default) (AV.int 0) (ys641.getD 0 default)) (AV.app 1 (AV.mk 1 [[(AV.at x0 (ys321.getD 0 default) 0)]]) (AV.sub 1 (ys321.getD 1 default) (ys641.getD 0 default) (AV.len (ys321.getD 1 default)))))]))))))))))))))))))) ∧
  ((isF (AV.bin Go.BinOp.lss (ys321.getD 0 default) (AV.len x0))) →
    ((AV.flatS (ys321.getD 1 default)) ∧
    (fSame (ys321.getD 1 default) r))))))))) := by kernel_rfl
theorem combine_form (x0 x1 x2 r : AV) : fnF Try.prog Γ ann 3 17 Try.f17 (Try.f17.body.getD .skip) (.nil) [x0, x1, x2] (.tup [.row 53 2 false, .sc]) r = ((∃ r193 : AV, ((Fn Try.prog 9 [x0] Sh.sc r193) ∧
((AV.binOk Go.BinOp.neq r193 (AV.int 0)) ∧
((AV.isBool (AV.bin Go.BinOp.neq r193 (AV.int 0))) ∧
(((isT (AV.bin Go.BinOp.neq r193 (AV.int 0))) →
  ((AV.flat r193) ∧
  (fSame (AV.tup [(AV.mk 2 []), r193]) r))) ∧
((isF (AV.bin Go.BinOp.neq r193 (AV.int 0))) →
  (∃ r577 : AV, ((Fn Try.prog 33 [x0, x1] Sh.sc r577) ∧
  (∃ r769 : AV, ((Fn Try.prog 33 [x0, x2] Sh.sc r769) ∧
  ((AV.binOk Go.BinOp.lss r577 (AV.int 0)) ∧
  ((AV.isBool (AV.bin Go.BinOp.lss r577 (AV.int 0))) ∧
  (((isT (AV.bin Go.BinOp.lss r577 (AV.int 0))) →
    ((AV.isBool (AV.bin Go.BinOp.lss r577 (AV.int 0))) ∧
    ((isT (AV.bin Go.BinOp.lss r577 (AV.int 0))) ∧
    ((AV.flat (AV.int 8)) ∧
    (fSame (AV.tup [(AV.mk 2 []), (AV.int 8)]) r))))) ∧
  ((isF (AV.bin Go.BinOp.lss r577 (AV.int 0))) →
    ((AV.binOk Go.BinOp.lss r769 (AV.int 0)) ∧
    ((AV.isBool (AV.bin Go.BinOp.lss r577 (AV.int 0))) ∧
    ((isF (AV.bin Go.BinOp.lss r577 (AV.int 0))) ∧
    ((AV.isBool (AV.bin Go.BinOp.lss r769 (AV.int 0))) ∧
    (((isT (AV.bin Go.BinOp.lss r769 (AV.int 0))) →
      ((AV.flat (AV.int 8)) ∧
      (fSame (AV.tup [(AV.mk 2 []), (AV.int 8)]) r))) ∧
    ((isF (AV.bin Go.BinOp.lss r769 (AV.int 0))) →
      ((AV.binOk Go.BinOp.eql r577 r769) ∧
      ((AV.isBool (AV.bin Go.BinOp.eql r577 r769)) ∧
      (((isT (AV.bin Go.BinOp.eql r577 r769)) →
        ((AV.flat (AV.int 1)) ∧
        (fSame (AV.tup [(AV.mk 2 []), (AV.int 1)]) r))) ∧
      ((isF (AV.bin Go.BinOp.eql r577 r769)) →
        (∃ r1729 : AV, ((FnN Try.prog 34 [x0] 53 2 1 9 r1729) ∧
        ((AV.inb r1729 r577) ∧
        ((AV.inb r1729 r577) ∧
        ((AV.inb r1729 r577) ∧
        ((sameNum r577 r577) ∧
        ((AV.inb r1729 r769) ∧
        ((AV.inb r1729 r769) ∧
        ((otherNum r769 r577) ∧
        ((AV.isSl (AV.at r1729 r769 1) 1) ∧
        ((AV.room (AV.at r1729 r577 1) (AV.at r1729 r769 1) 16) ∧
        ((AV.inb r1729 r577) ∧
        ((AV.inb r1729 r577) ∧
        ((sameNum r577 r577) ∧
        ((AV.inb r1729 r577) ∧
        ((AV.inb r1729 r577) ∧
        ((sameNum r577 r577) ∧
        (∃ r3201 : AV, ((FnU Try.prog 35 9 1 (AV.app 1 (AV.at r1729 r577 1) (AV.at r1729 r769 1)) [] false r3201) ∧
        ((AV.binOk Go.BinOp.add r769 (AV.int 1)) ∧
        (∃ r3521 : AV, ((FnU Try.prog 36 53 2 (AV.setEl r1729 r577 1 [r3201]) [r769, (AV.bin Go.BinOp.add r769 (AV.int 1))] true r3521) ∧
        ((AV.flat (AV.int 0)) ∧
        (fSame (AV.tup [r3521, (AV.int 0)]) r))))))))))))))))))))))))))))))))))))))))))))))))) := by kernel_rfl
theorem clg_form (x0 r : AV) : fnF Try.prog Γ ann 3 46 Try.f46 (Try.f46.body.getD .skip) (.nil) [x0] (.row 53 2 false) r = ((fNil x0
  (fSame (AV.mk 2 []) r)
  ((AV.isSl x0 2) ∧
  ((AV.room (AV.mk 2 []) x0 40) ∧
  (fSame (AV.app 2 (AV.mk 2 []) x0) r))))) := by kernel_rfl
theorem cls_form (x0 r : AV) : fnF Try.prog Γ ann 3 47 Try.f47 (Try.f47.body.getD .skip) (.nil) [x0] (.row 9 1 true) r = ((fNil x0
  ((AV.flatS (AV.mk 1 [])) ∧
  (fSame (AV.mk 1 []) r))
  ((AV.isSl x0 1) ∧
  ((AV.room (AV.mk 1 []) x0 16) ∧
  ((AV.flatS (AV.app 1 (AV.mk 1 []) x0)) ∧
  (fSame (AV.app 1 (AV.mk 1 []) x0) r)))))) := by kernel_rfl
theorem cless_form (x0 x1 r : AV) : fnF Try.prog Γ ann 3 42 Try.f42 (Try.f42.body.getD .skip) (.nil) [x0, x1] (.sc) r = (((AV.isAgg x0 2) ∧
((AV.isAgg x1 2) ∧
((fEnt Try.prog 43) ∧
(fAllV fun _ => (∃ r705 : AV, ((Fn Try.prog 52 [(AV.cel x0 0), (AV.cel x1 0)] Sh.sc r705) ∧
((AV.flat r705) ∧
(fSame r705 r))))))))) := by kernel_rfl
end ConF
end Go.Proofs.Ytpidhccaoponfaa
/- config.Split: what the run ends in. -/
namespace Go.Proofs.Ytpidhccaoponfaa
open Go.RowKit
set_option linter.unusedVariables false
set_option maxRecDepth 100000
namespace ConG
--GAMMA
def Γ : FuncId → Option Ca := fun f =>
  if f = 30 ∨ f = 12 ∨ f = 13 ∨ f = 9 ∨ f = 10 ∨ f = 33 ∨ f = 39 ∨ f = 21 ∨ f = 14 ∨ f = 18 ∨ f = 8 ∨ f = 26 ∨ f = 29 ∨ f = 31 ∨ f = 16 ∨ f = 20 ∨ f = 23 then some (.fn .sc)
  else if f = 11 ∨ f = 17 ∨ f = 22 then some (.fn (.tup [.row 53 2 false, .sc]))
  else if f = 24 then some (.fn (.tup [.sc, .sc]))
  else if f = 25 then some (.fn (.tup [.row 9 1 true, .sc]))
  else if f = 28 then some (.fn (.tup [.row 56 3 true, .sc]))
  else if f = 19 ∨ f = 27 then some (.fn (.row 9 1 true))
  else if f = 34 then some (.nest 53 2 1 9 11)
  else if f = 41 ∨ f = 35 then some (.upd false)
  else if f = 36 then some (.upd true)
  else if f = 52 then some (.fn .sc)
  else some .inl
def ann : FuncId → Nat → LoopEx := fun f r => if f = 37 then ⟨[], [1000000], [], []⟩ else if f = 17 ∧ r = 300012 then ⟨[], [1729], [], []⟩ else if f = 22 ∧ r = 300028 then ⟨[], [1857], [], []⟩ else if f = 22 ∧ r = 20 then ⟨[], [2689], [(2113, 0)], [(2113, 1, 9, 1)]⟩ else ⟨[], [], [], []⟩
--END GAMMA
theorem split_form (x0 x1 x2 x3 r : AV) : fnF Try.prog Γ ann 3 22 Try.f22 (Try.f22.body.getD .skip) (.nil) [x0, x1, x2, x3] (.tup [.row 53 2 false, .sc]) r = (((AV.isOne x3) ∧
(∃ r257 : AV, ((Fn Try.prog 9 [x0] Sh.sc r257) ∧
((AV.binOk Go.BinOp.neq r257 (AV.int 0)) ∧
((AV.isBool (AV.bin Go.BinOp.neq r257 (AV.int 0))) ∧
(((isT (AV.bin Go.BinOp.neq r257 (AV.int 0))) →
  ((AV.flat r257) ∧
  (fSame (AV.tup [(AV.mk 2 []), r257]) r))) ∧
((isF (AV.bin Go.BinOp.neq r257 (AV.int 0))) →
  (∃ r641 : AV, ((Fn Try.prog 33 [x0, x1] Sh.sc r641) ∧
  ((AV.binOk Go.BinOp.lss r641 (AV.int 0)) ∧
  ((AV.isBool (AV.bin Go.BinOp.lss r641 (AV.int 0))) ∧
  (((isT (AV.bin Go.BinOp.lss r641 (AV.int 0))) →
    ((AV.flat (AV.int 8)) ∧
    (fSame (AV.tup [(AV.mk 2 []), (AV.int 8)]) r))) ∧
  ((isF (AV.bin Go.BinOp.lss r641 (AV.int 0))) →
    (∃ r1025 : AV, ((Fn Try.prog 30 [x2] Sh.sc r1025) ∧
    ((AV.unOk Go.UnOp.not r1025) ∧
    ((AV.isBool (AV.un Go.UnOp.not r1025)) ∧
    (((isT (AV.un Go.UnOp.not r1025)) →
      ((AV.flat (AV.int 3)) ∧
      (fSame (AV.tup [(AV.mk 2 []), (AV.int 3)]) r))) ∧
    ((isF (AV.un Go.UnOp.not r1025)) →
      (∃ r1345 : AV, ((Fn Try.prog 33 [x0, x2] Sh.sc r1345) ∧
      ((AV.binOk Go.BinOp.geq r1345 (AV.int 0)) ∧
      ((AV.isBool (AV.bin Go.BinOp.geq r1345 (AV.int 0))) ∧
      (((isT (AV.bin Go.BinOp.geq r1345 (AV.int 0))) →
        ((AV.flat (AV.int 7)) ∧
        (fSame (AV.tup [(AV.mk 2 []), (AV.int 7)]) r))) ∧
      ((isF (AV.bin Go.BinOp.geq r1345 (AV.int 0))) →
        ((AV.isSl x3 1) ∧
        (fLoop 1729 [(AV.int 0)] fun ys1729 again1729 =>
          ((AV.binOk Go.BinOp.lss (ys1729.getD 0 default) (AV.len x3)) ∧
          ((AV.isBool (AV.bin Go.BinOp.lss (ys1729.getD 0 default) (AV.len x3))) ∧
          (((isT (AV.bin Go.BinOp.lss (ys1729.getD 0 default) (AV.len x3))) →
            ((AV.isSl x3 1) ∧
            ((AV.inb x3 (ys1729.getD 0 default)) ∧
            ((AV.isSl x0 2) ∧
            ((AV.inb x0 r641) ∧
            (∃ r2369 : AV, ((Fn Try.prog 31 [(AV.at x0 r641 1), (AV.at x3 (ys1729.getD 0 default) 0)] Sh.sc r2369) ∧
            ((AV.unOk Go.UnOp.not r2369) ∧
            ((AV.isBool (AV.un Go.UnOp.not r2369)) ∧
            (((isT (AV.un Go.UnOp.not r2369)) →
              ((AV.flat (AV.int 6)) ∧
              (fSame (AV.tup [(AV.mk 2 []), (AV.int 6)]) r))) ∧
            ((isF (AV.un Go.UnOp.not r2369)) →
              ((AV.binOk Go.BinOp.add (ys1729.getD 0 default) (AV.int 1)) ∧
              (again1729 [(AV.bin Go.BinOp.add (ys1729.getD 0 default) (AV.int 1))]))))))))))))) ∧
          ((isF (AV.bin Go.BinOp.lss (ys1729.getD 0 default) (AV.len x3))) →
            (∃ r1857 : AV, ((FnN Try.prog 34 [x0] 53 2 1 9 r1857) ∧
            ((AV.inb r1857 r641) ∧
            ((AV.isOne x2) ∧
            ((AV.isSl x0 2) ∧
            ((AV.inb x0 r641) ∧
            ((AV.isSl (AV.at x0 r641 1) 1) ∧
            (fLoop 2753 [(AV.int 0), (AV.mk 1 []), x2] fun ys2753 again2753 =>
              ((AV.binOk Go.BinOp.lss (ys2753.getD 0 default) (AV.len (AV.at x0 r641 1))) ∧
              ((AV.isBool (AV.bin Go.BinOp.lss (ys2753.getD 0 default) (AV.len (AV.at x0 r641 1)))) ∧
              (((isT (AV.bin Go.BinOp.lss (ys2753.getD 0 default) (AV.len (AV.at x0 r641 1)))) →
                ((AV.isSl (AV.at x0 r641 1) 1) ∧
                ((AV.inb (AV.at x0 r641 1) (ys2753.getD 0 default)) ∧
                (∃ r3137 : AV, ((Fn Try.prog 31 [x3, (AV.at (AV.at x0 r641 1) (ys2753.getD 0 default) 0)] Sh.sc r3137) ∧
                ((AV.isBool r3137) ∧
                (((isT r3137) →
                  ((AV.isOne (AV.at (AV.at x0 r641 1) (ys2753.getD 0 default) 0)) ∧
                  ((AV.room (ys2753.getD 1 default) (AV.mk 1 [[(AV.at (AV.at x0 r641 1) (ys2753.getD 0 default) 0)]]) 16) ∧
                  ((AV.binOk Go.BinOp.add (ys2753.getD 0 default) (AV.int 1)) ∧
                  (again2753 [(AV.bin Go.BinOp.add (ys2753.getD 0 default) (AV.int 1)), (AV.app 1 (ys2753.getD 1 default) (AV.mk 1 [[(AV.at (AV.at x0 r641 1) (ys2753.getD 0 default) 0)]])), (ys2753.getD 2 default)]))))) ∧
                ((isF r3137) →
                  ((AV.binOk Go.BinOp.add (ys2753.getD 0 default) (AV.int 1)) ∧
                  (again2753 [(AV.bin Go.BinOp.add (ys2753.getD 0 default) (AV.int 1)), (ys2753.getD 1 default), (ys2753.getD 2 default)])))))))))) ∧
              ((isF (AV.bin Go.BinOp.lss (ys2753.getD 0 default) (AV.len (AV.at x0 r641 1)))) →
                ((AV.binOk Go.BinOp.eql (AV.len (ys2753.getD 1 default)) (AV.int 0)) ∧
                ((AV.isBool (AV.bin Go.BinOp.eql (AV.len (ys2753.getD 1 default)) (AV.int 0))) ∧
                (((isT (AV.bin Go.BinOp.eql (AV.len (ys2753.getD 1 default)) (AV.int 0))) →
                  ((AV.isBool (AV.bin Go.BinOp.eql (AV.len (ys2753.getD 1 default)) (AV.int 0))) ∧
                  ((isT (AV.bin Go.BinOp.eql (AV.len (ys2753.getD 1 default)) (AV.int 0))) ∧
                  ((AV.flat (AV.int 11)) ∧
                  (fSame (AV.tup [(AV.mk 2 []), (AV.int 11)]) r))))) ∧
                ((isF (AV.bin Go.BinOp.eql (AV.len (ys2753.getD 1 default)) (AV.int 0))) →
                  ((AV.isSl x0 2) ∧
                  ((AV.inb x0 r641) ∧
                  ((AV.isSl (AV.at x0 r641 1) 1) ∧
                  ((AV.binOk Go.BinOp.eql (AV.len (ys2753.getD 1 default)) (AV.len (AV.at x0 r641 1))) ∧
                  ((AV.isBool (AV.bin Go.BinOp.eql (AV.len (ys2753.getD 1 default)) (AV.int 0))) ∧
                  ((isF (AV.bin Go.BinOp.eql (AV.len (ys2753.getD 1 default)) (AV.int 0))) ∧
                  ((AV.isBool (AV.bin Go.BinOp.eql (AV.len (ys2753.getD 1 default)) (AV.len (AV.at x0 r641 1)))) ∧
                  (((isT (AV.bin Go.BinOp.eql (AV.len (ys2753.getD 1 default)) (AV.len (AV.at x0 r641 1)))) →
                    ((AV.flat (AV.int 11)) ∧
                    (fSame (AV.tup [(AV.mk 2 []), (AV.int 11)]) r))) ∧
                  ((isF (AV.bin Go.BinOp.eql (AV.len (ys2753.getD 1 default)) (AV.len (AV.at x0 r641 1)))) →
                    ((AV.inb r1857 r641) ∧
                    ((AV.inb r1857 r641) ∧
                    ((sameNum r641 r641) ∧
                    ((fEnt Try.prog 37) ∧
                    (fAllV fun _ => ((fEnt Try.prog 50) ∧
                    (fAllV fun _ => (fLoop 4929 [(AV.int 0)] fun ys4929 again4929 =>
                      ((AV.binOk Go.BinOp.lss (ys4929.getD 0 default) (AV.len (AV.at r1857 r641 1))) ∧
                      ((AV.isBool (AV.bin Go.BinOp.lss (ys4929.getD 0 default) (AV.len (AV.at r1857 r641 1)))) ∧
                      (((isT (AV.bin Go.BinOp.lss (ys4929.getD 0 default) (AV.len (AV.at r1857 r641 1)))) →
                        ((AV.inb (AV.at r1857 r641 1) (ys4929.getD 0 default)) ∧
                        ((AV.inb (AV.at r1857 r641 1) (ys4929.getD 0 default)) ∧
                        ((fEnt Try.prog 38) ∧
                        (fAllV fun _ => (∃ r5697 : AV, ((Fn Try.prog 31 [x3, (AV.at (AV.at r1857 r641 1) (ys4929.getD 0 default) 0)] Sh.sc r5697) ∧
                        ((AV.isBool r5697) ∧
                        (((isT r5697) →
                          ((AV.binOk Go.BinOp.eql (ys4929.getD 0 default) (AV.int (-1))) ∧
                          ((AV.isBool (AV.bin Go.BinOp.eql (ys4929.getD 0 default) (AV.int (-1)))) ∧
                          (((isT (AV.bin Go.BinOp.eql (ys4929.getD 0 default) (AV.int (-1)))) →
                            ((AV.inb r1857 r641) ∧
                            ((AV.inb r1857 r641) ∧
                            ((sameNum r641 r641) ∧
                            ((AV.room (AV.setEl r1857 r641 1 [(AV.at r1857 r641 1)]) (AV.mk 2 [[(ys2753.getD 2 default), (ys2753.getD 1 default)]]) 40) ∧
                            ((fEnt Try.prog 32) ∧
                            (fAllV fun _ => (∃ r7169 : AV, ((FnU Try.prog 41 53 2 (AV.app 2 (AV.setEl r1857 r641 1 [(AV.at r1857 r641 1)]) (AV.mk 2 [[(ys2753.getD 2 default), (ys2753.getD 1 default)]])) [(AV.mkClo 42 [])] false r7169) ∧
                            ((AV.flat (AV.int 0)) ∧
                            (fSame (AV.tup [r7169, (AV.int 0)]) r))))))))))) ∧
                          ((isF (AV.bin Go.BinOp.eql (ys4929.getD 0 default) (AV.int (-1)))) →
                            ((AV.binOk Go.BinOp.add (ys4929.getD 0 default) (AV.int 1)) ∧
                            (fLoop 6465 [(ys4929.getD 0 default), (AV.bin Go.BinOp.add (ys4929.getD 0 default) (AV.int 1)), (AV.at r1857 r641 1)] fun ys6465 again6465 =>
                              ((AV.binOk Go.BinOp.lss (ys6465.getD 1 default) (AV.len (ys6465.getD 2 default))) ∧
                              ((AV.isBool (AV.bin Go.BinOp.lss (ys6465.getD 1 default) (AV.len (ys6465.getD 2 default)))) ∧
                              (((isT (AV.bin Go.BinOp.lss (ys6465.getD 1 default) (AV.len (ys6465.getD 2 default)))) →
                                ((AV.inb (ys6465.getD 2 default) (ys6465.getD 1 default)) ∧
                                ((AV.inb (ys6465.getD 2 default) (ys6465.getD 1 default)) ∧
                                ((fEnt Try.prog 38) ∧
                                (fAllV fun _ => (∃ r7425 : AV, ((Fn Try.prog 31 [x3, (AV.at (ys6465.getD 2 default) (ys6465.getD 1 default) 0)] Sh.sc r7425) ∧
                                ((AV.unOk Go.UnOp.not r7425) ∧
                                ((AV.isBool (AV.un Go.UnOp.not r7425)) ∧
                                (((isT (AV.un Go.UnOp.not r7425)) →
                                  ((AV.inb (ys6465.getD 2 default) (ys6465.getD 0 default)) ∧
                                  ((AV.isOne (AV.at (ys6465.getD 2 default) (ys6465.getD 1 default) 0)) ∧
                                  ((AV.inb (ys6465.getD 2 default) (ys6465.getD 0 default)) ∧
                                  ((AV.binOk Go.BinOp.add (ys6465.getD 0 default) (AV.int 1)) ∧
                                  ((AV.binOk Go.BinOp.add (ys6465.getD 1 default) (AV.int 1)) ∧
                                  (again6465 [(AV.bin Go.BinOp.add (ys6465.getD 0 default) (AV.int 1)), (AV.bin Go.BinOp.add (ys6465.getD 1 default) (AV.int 1)), (AV.setEl (ys6465.getD 2 default) (ys6465.getD 0 default) 0 [(AV.at (ys6465.getD 2 default) (ys6465.getD 1 default) 0)])]))))))) ∧
                                ((isF (AV.un Go.UnOp.not r7425)) →
                                  ((AV.binOk Go.BinOp.add (ys6465.getD 1 default) (AV.int 1)) ∧
                                  (again6465 [(ys6465.getD 0 default), (AV.bin Go.BinOp.add (ys6465.getD 1 default) (AV.int 1)), (ys6465.getD 2 default)]))))))))))))) ∧
                              ((isF (AV.bin Go.BinOp.lss (ys6465.getD 1 default) (AV.len (ys6465.getD 2 default)))) →
                                ((AV.subOk (ys6465.getD 2 default) (ys6465.getD 0 default) (AV.len (ys6465.getD 2 default))) ∧
                                ((AV.subOk (AV.clr 1 (ys6465.getD 2 default) (ys6465.getD 0 default) [(AV.lit (Value.string ⟨#[]⟩))]) (AV.int 0) (ys6465.getD 0 default)) ∧
                                ((AV.inb r1857 r641) ∧
                                ((AV.inb r1857 r641) ∧
                                ((sameNum r641 r641) ∧
                                ((AV.isOne (AV.sub 1 (AV.clr 1 (ys6465.getD 2 default) (ys6465.getD 0 default) [(AV.lit (Value.string ⟨#[]⟩))]) (AV.int 0) (ys6465.getD 0 default))) ∧
                                ((AV.room (AV.setEl r1857 r641 1 [(AV.sub 1 (AV.clr 1 (ys6465.getD 2 default) (ys6465.getD 0 default) [(AV.lit (Value.string ⟨#[]⟩))]) (AV.int 0) (ys6465.getD 0 default))]) (AV.mk 2 [[(ys2753.getD 2 default), (ys2753.getD 1 default)]]) 40) ∧
                                ((fEnt Try.prog 32) ∧
                                (fAllV fun _ => (∃ r8001 : AV, ((FnU Try.prog 41 53 2 (AV.app 2 (AV.setEl r1857 r641 1 [(AV.sub 1 (AV.clr 1 (ys6465.getD 2 default) (ys6465.getD 0 default) [(AV.lit (Value.string ⟨#[]⟩))]) (AV.int 0) (ys6465.getD 0 default))]) (AV.mk 2 [[(ys2753.getD 2 default), (ys2753.getD 1 default)]])) [(AV.mkClo 42 [])] false r8001) ∧
                                ((AV.flat (AV.int 0)) ∧
                                (fSame (AV.tup [r8001, (AV.int 0)]) r)))))))))))))))))))))))) ∧
                        ((isF r5697) →
                          ((AV.binOk Go.BinOp.add (ys4929.getD 0 default) (AV.int 1)) ∧
                          (again4929 [(AV.bin Go.BinOp.add (ys4929.getD 0 default) (AV.int 1))])))))))))))) ∧
                      ((isF (AV.bin Go.BinOp.lss (ys4929.getD 0 default) (AV.len (AV.at r1857 r641 1)))) →
                        ((AV.inb r1857 r641) ∧
                        ((AV.inb r1857 r641) ∧
                        ((sameNum r641 r641) ∧
                        ((AV.room (AV.setEl r1857 r641 1 [(AV.at r1857 r641 1)]) (AV.mk 2 [[(ys2753.getD 2 default), (ys2753.getD 1 default)]]) 40) ∧
                        ((fEnt Try.prog 32) ∧
                        (fAllV fun _ => (∃ r6209 : AV, ((FnU Try.prog 41 53 2 (AV.app 2 (AV.setEl r1857 r641 1 [(AV.at r1857 r641 1)]) (AV.mk 2 [[(ys2753.getD 2 default), (ys2753.getD 1 default)]])) [(AV.mkClo 42 [])] false r6209) ∧
                        ((AV.flat (AV.int 0)) ∧
                        (fSame (AV.tup [r6209, (AV.int 0)]) r))))))))))))))))))))))))))))))))))))))))))))))))))))))))))))))))))))))))))))))) := by kernel_rfl
end ConG
end Go.Proofs.Ytpidhccaoponfaa
