/- Each operation does what the run says: two numbers, texts or structs. -/
import Derived.Test.YtfdpbfdhcngfgaaOps4
namespace Go.Proofs.Ytfdpbfdhcngfgaa
open Go.RowKit
set_option linter.unusedVariables false
section
variable {P : Program} {base : Nat} {w0 : World} {ok0 isd : Nat → Prop} {tm : List DE} {blk : Nat → DB} {ρ : Nat → Value} {a : Act} {w : World} {V : View} {st : Nat} {o : Oper} {Γ : FuncId → Option Ca}
theorem split_fits {ok : Nat → Prop} {t : TypeId} {d : DE} {v : Value} {cs : List DE} {obs : List Prop} (hs : split P t d = some (cs, obs)) (ha : isAggT P t = true) (hobs : ∀ p ∈ obs, p) (hd : RD w ok ρ blk isd d v) : ∃ vs, v = .agg vs := by
  unfold split at hs
  rw [ha] at hs
  simp only at hs
  split at hs
  · cases hd with | agg _ vs h1 h2 h3 => exact ⟨vs, rfl⟩
  · rename_i x
    simp only [Option.some.injEq, Prod.mk.injEq] at hs
    obtain ⟨rfl, rfl⟩ := hs
    obtain ⟨ys, rfl, hl⟩ := hobs (x.isAgg (P.cellsOf t)) (by simp)
    cases hd with
    | v _ _ hr => cases hr with | agg _ vs h1 h2 h3 => exact ⟨vs, rfl⟩
  · cases hs
theorem okA_lit {k : EK} {x : AV} (h : okA k x) : ∃ u, x = .lit u ∧ k.ok u := by
  cases k <;> obtain ⟨n, rfl⟩ := h <;> exact ⟨_, rfl, _, rfl⟩
def litV : AV → Value
  | .lit v => v
  | _ => undef
theorem eqc_lit (u v : Value) : AV.eqc (.lit u) (.lit v) = eqV u v := by
  cases u <;> cases v <;> rfl
theorem cell_is (hV : VOk V tm blk) (h : HR base w0 ok0 isd tm blk ρ a w) {cs : List DE} {us : Array Value} (hc : RCells w (okF base ok0 blk ρ) ρ blk isd cs us) {xs : List AV} {r : List Nat} (hp : V.pcs cs = some (xs, r)) {i : Nat} {k : EK} (hk : okA k (xs.getD i default)) : k.ok (us.getD i undef) ∧ xs.getD i default = .lit (us.getD i undef) := by
  obtain ⟨u, e, hu⟩ := okA_lit hk
  obtain ⟨p1, p2⟩ := pcs_get hp
  by_cases hi : i < cs.length
  · obtain ⟨r', h1, h2⟩ := p2 i hi
    have := pc_ok hV h (hc.2.2 i hi) h1
    rw [e] at this
    have e2 := RV.lit_iff.1 this
    rw [e2]
    exact ⟨hu, e⟩
  · rw [List.getD_eq_getElem?_getD, List.getElem?_eq_none (by omega)] at e
    simp only [Option.getD_none] at e
    have : u = undef := by injection e with e; exact e.symm
    subst this
    exfalso
    cases k <;> obtain ⟨_, h⟩ := hu <;> cases h
theorem run_equal_ptr_nil (t e : TypeId) (ad : Addr) (ht : P.underlying t = some (.pointer e)) : (Op.equal t (.pointer (some ad)) (.pointer none)).run P w = .ok false w := by
  have : ∀ n, (Op.equalIn (n + 1) t (.pointer (some ad)) (.pointer none)).run P w = .ok false w := fun n => by simp [Op.equalIn, run_underlying ht]
  exact this 9999
theorem constInt_spec {d : DE} {k : IntKind} {n : Int} (h : constInt d = some (k, n)) : d = .c (.int k n) := by
  unfold constInt at h
  split at h
  · simp only [Option.some.injEq, Prod.mk.injEq] at h
    rw [h.1, h.2]
  · cases h
theorem op_bin {op : BinOp} {t qt : TypeId} {x y : Operand} (ho : o.op = .binOp op t x y qt) (hV : VOk V tm blk) (h : HR base w0 ok0 isd tm blk ρ a w) {δ : Delta} (hv : Valid P Γ o st V δ) : Goes P base w0 ok0 isd tm blk st a w o δ := by
  have hx := ev_ok hV h x
  have hy := ev_ok hV h y
  have hor : o = ⟨o.dst, .binOp op t x y qt, o.type, o.pos, o.after, o.guard⟩ := by rw [← ho]
  have hval : ∀ (d : AV) (e : AV), V.pc (V.ev x) = some (d, []) → V.pc (V.ev y) = some (e, []) → AV.binOk op d e → Goes P base w0 ok0 isd tm blk st a w o ⟨.v (AV.bin op d e), []⟩ := fun d e h1 h2 h3 => by
    obtain ⟨r, er, hrun⟩ := run_bin (P := P) (t := t) (pc_ok' hV h hx h1) (pc_ok' hV h hy h2) h3 x y qt o.dst o.type o.pos o.after o.guard a.eval rfl rfl
    rw [← hor] at hrun
    exact goes_val h hrun (.v _ _ (er ▸ .lit _))
  simp only [Valid, opD, ho, binD] at hv
  split at hv
  · rename_i hn
    have hy2 : y = .const .nilIface := by
      cases y with
      | const v => cases v with
        | nilIface => rfl
        | _ => simp [isNilI] at hn
      | _ => simp [isNilI] at hn
    subst hy2
    unfold nilID at hv
    split at hv
    · rename_i ms d h1 h2
      have hnn : (Op.equal t .nilIface .nilIface).run P w = .ok true w := by
        have : ∀ n, (Op.equalIn (n + 1) t .nilIface .nilIface).run P w = .ok true w := fun n => by simp [Op.equalIn, run_underlying h1]
        exact this 9999
      have r0 := pc_ok' hV h hx h2
      split at hv
      · obtain ⟨i1, rfl⟩ := hv.det1
        have r1 : a.eval x = .nilIface := by unfold AV.isNI at i1; rw [i1] at r0; exact RV.lit_iff.1 r0
        have r2 : a.eval (.const .nilIface) = .nilIface := rfl
        exact goes_val h (by simp [execOp, ho, eqGuard, binOp, r1, r2, hnn]) (.c _)
      · obtain ⟨i1, rfl⟩ := hv.det1
        have r1 : a.eval x = .nilIface := by unfold AV.isNI at i1; rw [i1] at r0; exact RV.lit_iff.1 r0
        have r2 : a.eval (.const .nilIface) = .nilIface := rfl
        exact goes_val h (by simp [execOp, ho, eqGuard, binOp, r1, r2, hnn]) (.c _)
      · exact hv.elim
    · exact hv.elim
  split at hv
  · rename_i k m k' n b h1 h2 h3
    split at hv
    · rename_i hk
      obtain rfl := hv.pure1
      subst hk
      rw [constInt_spec h1] at hx; rw [constInt_spec h2] at hy
      rw [h1, h2] at h3
      generalize hu : a.eval x = u at hx
      generalize hw' : a.eval y = v at hy
      cases hx; cases hy
      refine goes_val h (v := .bool b) ?_ (.c _)
      have h3' : foldCmp op m n = some b := h3
      clear h3 hval hor hv
      cases op <;> first | (exfalso; simp [foldCmp] at h3'; done) | (simp only [foldCmp, Option.some.injEq] at h3'; subst h3'; simp [execOp, ho, eqGuard, binOp, Op.intCmp, hu, hw'])
    · exact hv.elim
  · split at hv
    · rename_i k ht
      split at hv
      · rename_i hsh
        split at hv
        · rename_i d e h3 h4
          obtain ⟨⟨i1, i2, i3⟩, rfl⟩ := hv.det1
          have r1 := rv_int (pc_ok' hV h hx h3) i1
          have r2 := rv_int (pc_ok' hV h hy h4) i2
          have i3' : ¬ e.num < 0 := by omega
          cases op <;> first | (exfalso; simp [isShift] at hsh; done) | exact goes_val h (by simp [execOp, ho, eqGuard, binOp, Op.shift, r1, r2, i3']) (.v _ _ (.lit _))
        · exact hv.elim
      · split at hv
        · rename_i d e h3 h4
          obtain ⟨h5, rfl⟩ := hv.det1
          exact hval d e h3 h4 h5
        · exact hv.elim
    · split at hv
      · rename_i d e h3 h4
        obtain ⟨h5, rfl⟩ := hv.det1
        exact hval d e h3 h4 h5
      · exact hv.elim
    · rename_i ht
      split at hv
      · rename_i d e h3 h4
        split at hv
        · obtain ⟨i1, i2, rfl⟩ := hv.det2
          have r1 := rv_bool (pc_ok' hV h hx h3) i1
          have r2 := rv_bool (pc_ok' hV h hy h4) i2
          exact goes_val h (by simp [execOp, ho, eqGuard, binOp, r1, r2, run_equal_bool w t _ _ ht]) (.v _ _ (.lit _))
        · obtain ⟨i1, i2, rfl⟩ := hv.det2
          have r1 := rv_bool (pc_ok' hV h hx h3) i1
          have r2 := rv_bool (pc_ok' hV h hy h4) i2
          exact goes_val h (by simp [execOp, ho, eqGuard, binOp, r1, r2, run_equal_bool w t _ _ ht]) (.v _ _ (.lit _))
        · exact hv.elim
      · exact hv.elim
    · rename_i e ht
      split at hv
      · rename_i hp
        simp only [Bool.and_eq_true] at hp
        obtain ⟨ad, e1⟩ := isPtr_spec hV hx hp.1
        have hy2 : a.eval y = .pointer none := by
          cases hd : V.ev y with
          | c v =>
            rw [hd] at hp hy
            cases v with
            | pointer q => cases q with
              | none => generalize hu : a.eval y = u at hy; cases hy; rfl
              | some q => simp [isNilPtr] at hp
            | _ => simp [isNilPtr] at hp
          | _ => rw [hd] at hp; simp [isNilPtr] at hp
        split at hv
        · obtain rfl := hv.pure1
          exact goes_val h (by simp [execOp, ho, eqGuard, binOp, e1, hy2, run_equal_ptr_nil t e ad ht]) (.c _)
        · obtain rfl := hv.pure1
          exact goes_val h (by simp [execOp, ho, eqGuard, binOp, e1, hy2, run_equal_ptr_nil t e ad ht]) (.c _)
        · exact hv.elim
      · exact hv.elim
    · rename_i fs ht
      split at hv
      · exact hv.elim
      · rename_i hgd
        split at hv
        · rename_i pl cs o1 ds o2 h1 h2 h3
          split at hv
          · rename_i xs r1 ys r2 h4 h5
            have hag : isAggT P t = true := by unfold isAggT; rw [ht]
            have key : AV.eqPlOk pl xs ys → (∀ p ∈ o1 ++ o2, p) → ∃ us vs, a.eval x = .agg us ∧ a.eval y = .agg vs ∧ (Op.equalIn 10000 t (.agg us) (.agg vs)).run P w = .ok (pl.all fun p => AV.eqc (xs.getD p.1 default) (ys.getD p.1 default)) w := fun k1 k2 => by
              obtain ⟨us, e1⟩ := split_fits h2 hag (fun p hp => k2 p (List.mem_append_left _ hp)) hx
              obtain ⟨vs, e2⟩ := split_fits h3 hag (fun p hp => k2 p (List.mem_append_right _ hp)) hy
              obtain ⟨q1, q2⟩ := split_ok h2 (fun p hp => k2 p (List.mem_append_left _ hp)) hx
              obtain ⟨q3, q4⟩ := split_ok h3 (fun p hp => k2 p (List.mem_append_right _ hp)) hy
              refine ⟨us, vs, e1, e2, ?_⟩
              rw [e1] at q1; rw [e2] at q3
              have q1' : RCells w _ ρ blk isd cs us := q1
              have q3' : RCells w _ ρ blk isd ds vs := q3
              have c1 := fun p (hp : p ∈ pl) => cell_is hV h q1' h4 (k1 p hp).1
              have c2 := fun p (hp : p ∈ pl) => cell_is hV h q3' h5 (k1 p hp).2
              rw [show (10000 : Nat) = 9992 + 8 from rfl, run_eqPlan (P := P) w 8 9992 t pl h1 (.agg us) (.agg vs) (by unfold Fits; rw [ht]; exact ⟨us, rfl, by rw [q1'.1, q2]⟩) (by unfold Fits; rw [ht]; exact ⟨vs, rfl, by rw [q3'.1, q4]⟩) (fun p hp => ⟨(c1 p hp).1, (c2 p hp).1⟩)]
              congr 1
              apply Bool.eq_iff_iff.2
              simp only [List.all_eq_true]
              have hq : ∀ p ∈ pl, eqV (us.getD p.1 undef) (vs.getD p.1 undef) = AV.eqc (xs.getD p.1 default) (ys.getD p.1 default) := fun p hp => by
                rw [(c1 p hp).2, (c2 p hp).2]
                exact (eqc_lit _ _).symm
              exact ⟨fun z p hp => by rw [← hq p hp]; exact z p hp, fun z p hp => by have := z p hp; rw [← hq p hp] at this; exact this⟩
            split at hv
            · obtain ⟨k1, rfl⟩ := hv
              obtain ⟨us, vs, e1, e2, hrun⟩ := key (k1 _ (by simp)) (fun p hp => k1 p (by simp [hp] <;> exact .inr (by simpa using hp)))
              exact goes_val h (by simp [execOp, ho, e1, e2, run_eqGuard_agg w _ t _ _ us vs (by simpa using hgd), run_eql_struct, hrun]) (.v _ _ (.lit _))
            · obtain ⟨k1, rfl⟩ := hv
              obtain ⟨us, vs, e1, e2, hrun⟩ := key (k1 _ (by simp)) (fun p hp => k1 p (by simp [hp] <;> exact .inr (by simpa using hp)))
              exact goes_val h (by simp [execOp, ho, e1, e2, run_eqGuard_agg w _ t _ _ us vs (by simpa using hgd), run_neq_struct, hrun]) (.v _ _ (.lit _))
            · exact hv.elim
          · exact hv.elim
        · exact hv.elim
    · exact hv.elim
end
end Go.Proofs.Ytfdpbfdhcngfgaa
