/- Texts of one proof, part 6: plain values, a run over them, contracts of functions. -/
import Derived.Test.YtcdbodnhimbddaaGreatM5
import Derived.Test.YtcdbodnhimbddaaGreatM4
import Derived.Laws.CopyRow
import Derived.Laws.CopyOwn
import Derived.Deep.RegionLaw
import Derived.Deep.OwnRows
import Derived.Test.YtcdbodnhimbddaaGreatM3
/- sectors: the visits of a tube. -/
namespace Go.Proofs.YtcdbodnhimbddaaGreat
open Go.RowKit
set_option linter.unusedVariables false
set_option linter.unusedSimpArgs false
set_option maxRecDepth 100000
structure Vs where
  s : Int
  f : Int
  t : Int
  deriving DecidableEq, Inhabited
def encVs (v : Vs) : List AV := [.int v.s, .int v.f, .int v.t]
abbrev vss (l : List Vs) : AV := lst 3 encVs l
theorem flat_vss (l : List Vs) : (vss l).flatS := lst_flatS fun x _ z hz => by
  simp [encVs] at hz; rcases hz with rfl | rfl | rfl <;> exact .lit _
def lastV (out : List Vs) : Vs := out.getD (out.length - 1) default
def stepV (out : List Vs) (i t : Int) : List Vs := if 0 < out.length ∧ (lastV out).s = i then out.set (out.length - 1) ⟨(lastV out).s, (lastV out).f, t⟩ else out ++ [⟨i, t, t⟩]
theorem stepV_len (out : List Vs) (i t : Int) : (stepV out i t).length ≤ out.length + 1 := by
  unfold stepV
  split <;> simp
def visK (l : List Se) (tb : List Nd) (a : Int) : Nat → List Vs
  | 0 => []
  | k + 1 => stepV (visK l tb a k) (plc l (atN tb (a + k)).p (atN tb (a + k)).h) (a + k)
theorem visK_len (l : List Se) (tb : List Nd) (a : Int) : ∀ k, (visK l tb a k).length ≤ k
  | 0 => Nat.le_refl _
  | k + 1 => by
    have h1 := visK_len l tb a k
    have h2 := stepV_len (visK l tb a k) (plc l (atN tb (a + k)).p (atN tb (a + k)).h) (a + k)
    rw [visK]
    omega
theorem atN_t (l : List Nd) (t : Int) : (atN l t).t = t := by
  unfold atN
  split
  · assumption
  · rfl
theorem upN_len (l : List Nd) : ∀ (n : Nat) (a : Int), (upN l a n).length = n
  | 0, a => rfl
  | n + 1, a => by rw [upN, List.length_cons, upN_len l n]
def firT (tb : List Nd) : Int := (tb.getD 0 default).t
def lasT (tb : List Nd) : Int := (tb.getD (tb.length - 1) default).t
def durN (tb : List Nd) : Nat := (lasT tb - firT tb + 1).toNat
theorem dur_ok {tb : List Nd} (hv : tE tb = 0) : 0 ≤ firT tb ∧ firT tb ≤ lasT tb ∧ lasT tb ≤ 200000 := by
  obtain ⟨hp, h64, hG⟩ := tE_ok hv
  obtain ⟨a, ha⟩ : ∃ a, tb[0]? = some a := ⟨_, List.getElem?_eq_getElem hp⟩
  obtain ⟨b, hb⟩ : ∃ b, tb[tb.length - 1]? = some b := ⟨_, List.getElem?_eq_getElem (by omega)⟩
  have had : firT tb = a.t := by unfold firT; rw [List.getD_eq_getElem?_getD, ha]; rfl
  have hbd : lasT tb = b.t := by unfold lasT; rw [List.getD_eq_getElem?_getD, hb]; rfl
  have hao := (tG_get hG ha).2.1
  have hbo := (tG_get hG hb).2.1
  have hab : a.t ≤ b.t := by
    rcases Nat.eq_or_lt_of_le (show 0 ≤ tb.length - 1 by omega) with q | q
    · rw [← q, ha] at hb; injection hb with hb; rw [hb]; exact Int.le_refl _
    · have := (tG_get hG ha).2.2 _ b q hb; omega
  obtain ⟨a1, a2, _⟩ := hao
  obtain ⟨b1, b2, _⟩ := hbo
  omega
def visV (l : List Se) (tb : List Nd) : List Vs := visK l tb (firT tb) (durN tb)
theorem vss_app (a : List Vs) (x : Vs) : AV.app 3 (vss a) (.sl 3 [[.int x.s, .int x.f, .int x.t]]) = vss (a ++ [x]) := by simp [lst, AV.app, AV.els, encVs]
theorem visits_fn (l : List Se) (tb : List Nd) (ho : okS l) (hv : tE tb = 0) : Fn Tryz.prog 54 [ses l, tube tb] (.row 90 3 true) (vss (visV l tb)) := by
  refine fn_run mixed 3 (Γ := VisF.Γ) (ann := VisF.ann) Tryz.func54 rfl Tryz.call54 ((VisF.visits_form _ _ _).mpr ?_)
  obtain ⟨hp, h64, hG⟩ := tE_ok hv
  obtain ⟨d1, d2, d3⟩ := dur_ok hv
  have hN : durN tb ≤ 200001 := by unfold durN; omega
  have hsq : seqN tb = upN tb (firT tb) (durN tb) := rfl
  refine ⟨by simp, _, all_fn tb (by omega), 95, [.ref [tube tb]], seqN tb, rfl, all1_it tb hv, fun pre ys => ∃ k, k ≤ durN tb ∧ pre = upN tb (firT tb) k ∧ ys = [vss (visK l tb (firT tb) k)], ⟨0, Nat.zero_le _, rfl, rfl⟩, ?_, ?_⟩
  · rintro pre x rest ys hxr _ ⟨k, hk, rfl, rfl⟩
    have hlen : k < durN tb := by
      have := congrArg List.length hxr
      rw [hsq, List.length_append, List.length_cons, upN_len, upN_len] at this
      omega
    have hx : x = nd (atN tb (firT tb + k)) := by
      obtain ⟨rest', hr⟩ := upN_at tb k (durN tb) (firT tb) hlen
      rw [hsq, hr] at hxr
      have := List.append_cancel_left hxr
      injection this with this
      exact this.symm
    subst hx
    have hat : (atN tb (firT tb + k)).t = firT tb + k := atN_t _ _
    have hK : visK l tb (firT tb) (k + 1) = stepV (visK l tb (firT tb) k) (plc l (atN tb (firT tb + k)).p (atN tb (firT tb + k)).h) (firT tb + k) := rfl
    have hle := visK_len l tb (firT tb) k
    have hpl := splace_fn l (atN tb (firT tb + k)).p (atN tb (firT tb + k)).h ho
    have hnx : ∀ zs : List AV, zs = [vss (visK l tb (firT tb) (k + 1))] → ∃ j, j ≤ durN tb ∧ upN tb (firT tb) k ++ [nd (atN tb (firT tb + k))] = upN tb (firT tb) j ∧ zs = [vss (visK l tb (firT tb) j)] := fun zs hz => ⟨k + 1, by omega, (upN_snoc tb k (firT tb)).symm, hz⟩
    rw [hK] at hnx
    generalize visK l tb (firT tb) k = out at *
    generalize atN tb (firT tb + k) = n at *
    obtain ⟨nt, nx, ny, nh, nr, nb⟩ := n
    simp only [Nd.p] at hpl hnx hat
    generalize plc l ⟨nx, ny⟩ nh = i at *
    subst hat
    have g1 : 0 < out.length → (lastV out).s = i → (fun zs : List AV => ∃ j, j ≤ durN tb ∧ upN tb (firT tb) k ++ [nd ⟨firT tb + k, nx, ny, nh, nr, nb⟩] = upN tb (firT tb) j ∧ zs = [vss (visK l tb (firT tb) j)]) [vss (out.set (out.length - 1) ⟨(lastV out).s, (lastV out).f, firT tb + k⟩)] := fun a b => hnx _ (by unfold stepV; rw [if_pos ⟨a, b⟩])
    have g2 : ¬ (0 < out.length ∧ (lastV out).s = i) → (fun zs : List AV => ∃ j, j ≤ durN tb ∧ upN tb (firT tb) k ++ [nd ⟨firT tb + k, nx, ny, nh, nr, nb⟩] = upN tb (firT tb) j ∧ zs = [vss (visK l tb (firT tb) j)]) [vss (out ++ [⟨i, firT tb + k, firT tb + k⟩])] := fun a => hnx _ (by unfold stepV; rw [if_neg a])
    clear hnx hK
    generalize hKK : (fun zs : List AV => ∃ j, j ≤ durN tb ∧ upN tb (firT tb) k ++ [nd ⟨firT tb + k, nx, ny, nh, nr, nb⟩] = upN tb (firT tb) j ∧ zs = [vss (visK l tb (firT tb) j)]) = KK at *
    clear hKK
    simp only [f_allV]
    refine ⟨by simp [encN], .int i, hpl, ?_⟩
    have hroom : AV.room (vss out) (.sl 3 [[.int i, .int (firT tb + k), .int (firT tb + k)]]) 24 := by unfold AV.room; simp; omega
    have happ := vss_app out ⟨i, firT tb + k, firT tb + k⟩
    simp only at happ
    have hw1 : wr ((out.length : Int) - 1) = (out.length : Int) - 1 := wr_id (by omega) (by omega)
    rcases Nat.eq_zero_or_pos out.length with h0 | h0
    · have e0 : out = [] := List.eq_nil_of_length_eq_zero h0
      have g2' := g2 (by omega)
      rw [e0] at hroom happ g2' ⊢
      simp [encN]
      simp at hroom happ g2'
      exact ⟨hroom, g2'⟩
    · obtain ⟨m, hm⟩ : ∃ m, out.length = m + 1 := ⟨out.length - 1, by omega⟩
      obtain ⟨v, hv⟩ : ∃ v, out[m]? = some v := ⟨_, List.getElem?_eq_getElem (by omega)⟩
      have hlv : lastV out = v := by unfold lastV; rw [hm, List.getD_eq_getElem?_getD]; simp [hv]
      have hwm : wr (m : Int) = (m : Int) := wr_id (by omega) (by omega)
      rw [hlv, hm] at g1
      rw [hlv] at g2
      obtain ⟨vs, vf, vt⟩ := v
      simp only at g1 g2
      have hse : AV.setEl (vss out) (.lit (.int .i64 (m : Nat))) 2 [.int (firT tb + k)] = vss (out.set m ⟨vs, vf, firT tb + k⟩) := lst_setEl hv (by simp [encVs])
      have hln : out.length = m + 1 := hm
      simp [hln, hwm, encN, lst_at hv, encVs, hse, happ, hroom]
      refine ⟨by omega, ?_⟩
      exact ⟨fun q => ⟨by omega, g1 (by omega) q⟩, fun q => g2 (by omega)⟩
  · rintro ys _ ⟨k, hk, hpre, rfl⟩
    have hk : k = durN tb := by
      have := congrArg List.length hpre
      rw [hsq, upN_len, upN_len] at this
      exact this.symm
    subst hk
    refine ⟨by simpa using flat_vss _, ?_⟩
    simp [visV]
def pthE (l : List Se) (tb : List Nd) : Int := if chkS l ≠ 0 then chkS l else if tE tb ≠ 0 then tE tb else if lasT tb - firT tb > 20000 then 2 else 0
def pthV (l : List Se) (tb : List Nd) : AV := .tup [vss (if pthE l tb = 0 then visV l tb else []), .int (pthE l tb)]
theorem path_fn (l : List Se) (tb : List Nd) : Fn Tryz.prog 37 [ses l, tube tb] (.tup [.row 90 3 true, .sc]) (pthV l tb) := by
  have e := SecF.path_form (ses l) (tube tb) (pthV l tb)
  have k := fun h => fn_run mixed 3 (Γ := SecF.Γ) (ann := SecF.ann) Tryz.func37 rfl Tryz.call37 (e.mpr h)
  refine k ?_
  clear k e
  obtain ⟨E, hE⟩ : ∃ E, E = pthE l tb := ⟨_, rfl⟩
  have hV : pthV l tb = .tup [vss (if E = 0 then visV l tb else []), .int E] := by rw [hE]; rfl
  have hV0 : ∀ e, e ≠ 0 → E = e → pthV l tb = .tup [.sl 3 [], .int e] := fun e h1 h2 => by rw [hV, h2, if_neg h1]; rfl
  generalize pthV l tb = V at hV hV0 ⊢
  refine ⟨_, scheck_fn l, ?_⟩
  unfold pthE at hE
  have g1 : chkS l ≠ 0 → V = .tup [.sl 3 [], .int (chkS l)] := fun z => hV0 _ z (by rw [hE, if_pos z])
  simp
  refine ⟨fun z => (g1 z).symm, fun z => ?_⟩
  have n1 : ¬ chkS l ≠ 0 := by simp [z]
  rw [if_neg n1] at hE
  have ho := chkS_ok z
  refine ⟨_, tcheck_fn tb, ?_⟩
  have g2 : tE tb ≠ 0 → V = .tup [.sl 3 [], .int (tE tb)] := fun z => hV0 _ z (by rw [hE, if_pos z])
  simp
  refine ⟨fun z => (g2 z).symm, fun z2 => ?_⟩
  have n2 : ¬ tE tb ≠ 0 := by simp [z2]
  rw [if_neg n2] at hE
  obtain ⟨hp, h64, hG⟩ := tE_ok z2
  obtain ⟨d1, d2, d3⟩ := dur_ok z2
  obtain ⟨a, ha⟩ : ∃ a, tb[0]? = some a := ⟨_, List.getElem?_eq_getElem hp⟩
  obtain ⟨b, hb⟩ : ∃ b, tb[tb.length - 1]? = some b := ⟨_, List.getElem?_eq_getElem (by omega)⟩
  have had : a.t = firT tb := by unfold firT; rw [List.getD_eq_getElem?_getD, ha]; rfl
  have hbd : b.t = lasT tb := by unfold lasT; rw [List.getD_eq_getElem?_getD, hb]; rfl
  have hw1 : wr ((tb.length : Int) - 1) = (tb.length : Int) - 1 := wr_id (by omega) (by omega)
  have e0 : AV.at (tube tb) (.lit (.int .i64 0)) 0 = .int (firT tb) := by
    rw [lst_atI (by omega) (by simpa using ha)]; simp [encN, had]
  have e1 : AV.at (tube tb) (.lit (.int .i64 ((tb.length : Int) - 1))) 0 = .int (lasT tb) := by
    have q : ((tb.length : Int) - 1).toNat = tb.length - 1 := by omega
    rw [lst_atI (by omega) (by rw [q]; exact hb)]; simp [encN, hbd]
  have hw2 : wr (lasT tb - firT tb) = lasT tb - firT tb := wr_id (by omega) (by omega)
  have hvis := visits_fn l tb ho z2
  have g3 : lasT tb - firT tb > 20000 → V = .tup [.sl 3 [], .int 2] := fun z => hV0 _ (by decide) (by rw [hE, if_pos z])
  simp [hw1, e0, e1, hw2]
  refine ⟨⟨by omega, by omega⟩, by omega, fun y => (g3 y).symm, fun y => ?_⟩
  have hE0 : E = 0 := by rw [hE, if_neg (by omega)]
  refine ⟨_, hvis, flat_vss _, ?_⟩
  rw [hV, hE0, if_pos rfl]
end Go.Proofs.YtcdbodnhimbddaaGreat
/- loads: what is checked; the flights of each sector. -/
namespace Go.Proofs.YtcdbodnhimbddaaGreat
open Go.RowKit
set_option linter.unusedVariables false
set_option linter.unusedSimpArgs false
set_option maxRecDepth 100000
def encT (t : List Nd) : List AV := [tube t]
abbrev tbs (l : List (List Nd)) : AV := lst 1 encT l
def encI (n : Int) : List AV := [.int n]
abbrev ints (l : List Int) : AV := lst 1 encI l
theorem flat_ints (l : List Int) : (ints l).flatS := lst_flatS fun x _ z hz => by
  simp [encI] at hz; rw [hz]; exact .lit _
def tEs : List (List Nd) → Int
  | [] => 0
  | t :: r => if tE t ≠ 0 then tE t else tEs r
def lE (l : List Se) (ts : List (List Nd)) : Int := if chkS l ≠ 0 then chkS l else if ts.length > 24 then 2 else tEs ts
theorem tEs_ok : ∀ {ts : List (List Nd)}, tEs ts = 0 → ∀ t ∈ ts, tE t = 0
  | [], _, t, h => by simp at h
  | x :: r, h, t, ht => by
    rw [tEs] at h
    split at h
    · rename_i q; exact absurd h q
    · rename_i q
      rcases List.mem_cons.1 ht with rfl | ht
      · simpa using q
      · exact tEs_ok h t ht
theorem lE_ok {l : List Se} {ts : List (List Nd)} (h : lE l ts = 0) : chkS l = 0 ∧ ts.length ≤ 24 ∧ ∀ t ∈ ts, tE t = 0 := by
  unfold lE at h
  split at h
  · rename_i q; exact absurd h q
  · rename_i q
    split at h
    · cases h
    · exact ⟨by simpa using q, by omega, tEs_ok h⟩
theorem lcheck_fn (l : List Se) (ts : List (List Nd)) : Fn Tryz.prog 22 [ses l, tbs ts] .sc (.int (lE l ts)) := by
  refine fn_run mixed 3 (Γ := LoF.Γ) (ann := LoF.ann) Tryz.func22 rfl Tryz.call22 ((LoF.lcheck_form _ _ _).mpr ?_)
  obtain ⟨E, hE⟩ : ∃ E, E = lE l ts := ⟨_, rfl⟩
  rw [← hE]
  unfold lE at hE
  refine ⟨_, scheck_fn l, ?_⟩
  simp
  refine ⟨fun z => by rw [hE, if_pos z], fun z => ?_⟩
  rw [if_neg (by simp [z])] at hE
  refine ⟨fun z2 => by rw [hE, if_pos (by omega)], fun z2 => ?_⟩
  rw [if_neg (by omega)] at hE
  refine loop_list (σ := Unit) ts (fun n _ => [.int (n : Nat)]) (fun n rest _ => E = tEs rest) () rfl hE ?_ ?_
  · rintro n x rest _ K hx hr hn hg hK
    have hw : wr ((n : Int) + 1) = (n : Int) + 1 := wr_id (by omega) (by omega)
    rw [tEs] at hg
    have g1 : tE x ≠ 0 → tE x = E := fun h => by rw [hg, if_pos h]
    have g2 : tE x = 0 → K [.int ((n : Nat) + 1)] := fun h => hK _ () (by simp) (by rw [hg, if_neg (by simp [h])])
    clear hg hK
    simp [hn, lst_at hx, encT, hw]
    refine ⟨_, tcheck_fn x, ?_⟩
    simp
    exact ⟨g1, g2⟩
  · rintro _ K hg
    rw [tEs] at hg
    simp [hg]
theorem lerr_fn (l : List Se) (ts : List (List Nd)) : Fn Tryz.prog 8 [ses l, tbs ts] .sc (.int (lE l ts)) := by
  refine fn_run mixed 3 (Γ := LoF.Γ) (ann := LoF.ann) Tryz.func8 rfl Tryz.call8 ((LoF.lerr_form _ _ _).mpr ?_)
  obtain ⟨E, hE⟩ : ∃ E, E = lE l ts := ⟨_, rfl⟩
  rw [← hE]
  unfold lE at hE
  refine ⟨_, serr_fn l, ?_⟩
  simp
  refine ⟨fun z => by rw [hE, if_pos z], fun z => ?_⟩
  rw [if_neg (by simp [z])] at hE
  refine ⟨fun z2 => by rw [hE, if_pos (by omega)], fun z2 => ?_⟩
  rw [if_neg (by omega)] at hE
  refine loop_list (σ := Unit) ts (fun n _ => [.int (n : Nat)]) (fun n rest _ => E = tEs rest) () rfl hE ?_ ?_
  · rintro n x rest _ K hx hr hn hg hK
    have hw : wr ((n : Int) + 1) = (n : Int) + 1 := wr_id (by omega) (by omega)
    rw [tEs] at hg
    have g1 : tE x ≠ 0 → tE x = E := fun h => by rw [hg, if_pos h]
    have g2 : tE x = 0 → K [.int ((n : Nat) + 1)] := fun h => hK _ () (by simp) (by rw [hg, if_neg (by simp [h])])
    clear hg hK
    simp [hn, lst_at hx, encT, hw]
    refine ⟨_, tcheck_fn x, ?_⟩
    simp
    exact ⟨g1, g2⟩
  · rintro _ K hg
    rw [tEs] at hg
    simp [hg]
structure Sn where
  f : Int
  t : Int
def encSn (s : Sn) : List AV := [.int s.f, .int s.t]
abbrev sn (s : Sn) : AV := .agg (encSn s)
def snE (s : Sn) : Int := if s.f < 0 ∨ s.t > 200001 ∨ s.f ≥ s.t then 12 else if s.t - s.f > 2000 then 2 else 0
theorem snE_ok {s : Sn} (h : snE s = 0) : 0 ≤ s.f ∧ s.t ≤ 200001 ∧ s.f < s.t ∧ s.t - s.f ≤ 2000 := by
  unfold snE at h
  split at h
  · cases h
  · split at h
    · cases h
    · omega
theorem lspan_fn (s : Sn) : Fn Tryz.prog 23 [sn s] .sc (.int (snE s)) := by
  refine fn_run mixed 3 (Γ := LoF.Γ) (ann := LoF.ann) Tryz.func23 rfl Tryz.call23 ((LoF.lspan_form _ _).mpr ?_)
  obtain ⟨f, t⟩ := s
  have g1 : (f < 0 ∨ t > 200001 ∨ f ≥ t) → 12 = snE ⟨f, t⟩ := fun h => by unfold snE; rw [if_pos h]
  have g2 : ¬ (f < 0 ∨ t > 200001 ∨ f ≥ t) → t - f > 2000 → 2 = snE ⟨f, t⟩ := fun h h2 => by unfold snE; rw [if_neg h, if_pos h2]
  have g3 : ¬ (f < 0 ∨ t > 200001 ∨ f ≥ t) → ¬ t - f > 2000 → 0 = snE ⟨f, t⟩ := fun h h2 => by unfold snE; rw [if_neg h, if_neg h2]
  simp [encSn]
  refine ⟨fun a => ⟨a, g1 (by omega)⟩, fun a => ⟨a, fun b => ⟨b, g1 (by omega)⟩, fun b => ⟨b, fun c => g1 (by omega), fun c => ?_⟩⟩⟩
  have hw : wr (t - f) = t - f := wr_id (by omega) (by omega)
  simp [hw]
  exact ⟨fun d => g2 (by omega) (by omega), fun d => g3 (by omega) (by omega)⟩
theorem sperr_fn (s : Sn) : Fn Tryz.prog 9 [sn s] .sc (.int (snE s)) := by
  refine fn_run mixed 3 (Γ := LoF.Γ) (ann := LoF.ann) Tryz.func9 rfl Tryz.call9 ((LoF.serr2_form _ _).mpr ?_)
  obtain ⟨f, t⟩ := s
  have g1 : (f < 0 ∨ t > 200001 ∨ f ≥ t) → 12 = snE ⟨f, t⟩ := fun h => by unfold snE; rw [if_pos h]
  have g2 : ¬ (f < 0 ∨ t > 200001 ∨ f ≥ t) → t - f > 2000 → 2 = snE ⟨f, t⟩ := fun h h2 => by unfold snE; rw [if_neg h, if_pos h2]
  have g3 : ¬ (f < 0 ∨ t > 200001 ∨ f ≥ t) → ¬ t - f > 2000 → 0 = snE ⟨f, t⟩ := fun h h2 => by unfold snE; rw [if_neg h, if_neg h2]
  simp [encSn]
  refine ⟨fun a => ⟨a, g1 (by omega)⟩, fun a => ⟨a, fun b => ⟨b, g1 (by omega)⟩, fun b => ⟨b, fun c => g1 (by omega), fun c => ?_⟩⟩⟩
  have hw : wr (t - f) = t - f := wr_id (by omega) (by omega)
  simp [hw]
  exact ⟨fun d => g2 (by omega) (by omega), fun d => g3 (by omega) (by omega)⟩
/-- One flight more. -/
def cSt (l : List Se) (t : Int) (s : List Int × Int) (x : List Nd) : List Int × Int :=
  if tatE x t ≠ 0 then s else if 0 ≤ plc l (atN x t).p (atN x t).h then (s.1.set (plc l (atN x t).p (atN x t).h).toNat (wr (s.1.getD (plc l (atN x t).p (atN x t).h).toNat 0 + 1)), s.2) else (s.1, wr (s.2 + 1))
def cntS (l : List Se) (ts : List (List Nd)) (t : Int) : List Int × Int := ts.foldl (cSt l t) (List.replicate l.length 0, 0)
theorem plc_lt {l : List Se} {q : Pt} {h : Int} : plc l q h < l.length := by
  unfold plc
  rcases idxN_spec (hasB q h) l 0 with ⟨h1, _⟩ | ⟨i, x, h1, h2, _⟩
  · rw [h1]; omega
  · have := (List.getElem?_eq_some_iff.1 h2).1
    rw [h1]; omega
theorem cSt_len (l : List Se) (t : Int) (s : List Int × Int) (x : List Nd) : (cSt l t s x).1.length = s.1.length := by
  unfold cSt
  split
  · rfl
  · split <;> simp
theorem cfold_len (l : List Se) (t : Int) : ∀ (ts : List (List Nd)) (s : List Int × Int), (ts.foldl (cSt l t) s).1.length = s.1.length
  | [], s => rfl
  | x :: r, s => by rw [List.foldl_cons, cfold_len l t r, cSt_len]
theorem cntS_len (l : List Se) (ts : List (List Nd)) (t : Int) : (cntS l ts t).1.length = l.length := by
  unfold cntS
  rw [cfold_len]
  simp
def cntV (l : List Se) (ts : List (List Nd)) (t : Int) : AV := .tup [ints (cntS l ts t).1, .int (cntS l ts t).2]
theorem ints_rep (n : Nat) (v : Int) : AV.rep 1 (.lit (.int .i64 (n : Nat))) [.lit (.int .i64 v)] = ints (List.replicate n v) := by
  simp [AV.rep, lst, encI]
theorem tatV_cases (x : List Nd) (t : Int) : (tatE x t = 0 ∧ tatV x t = .tup [nd (atN x t), .int 0]) ∨ (tatE x t ≠ 0 ∧ tatV x t = .tup [nd nd0, .int (tatE x t)]) := by
  by_cases h : tatE x t = 0
  · left; exact ⟨h, by unfold tatV; rw [if_pos h]⟩
  · right; exact ⟨h, by unfold tatV; rw [if_neg h]⟩
theorem count_fn (l : List Se) (ts : List (List Nd)) (t : Int) (ho : okS l) (hts : ts.length ≤ 24) : Fn Tryz.prog 25 [ses l, tbs ts, .int t] (.tup [.row 3 1 true, .sc]) (cntV l ts t) := by
  refine fn_run mixed 3 (Γ := LoF.Γ) (ann := LoF.ann) Tryz.func25 rfl Tryz.call25 ((LoF.lcount_form _ _ _ _).mpr ?_)
  have hl := ho.1
  refine ⟨by simp, ?_, by simp, rfl, by simp, ?_⟩
  · simp [AV.mkOk]
    omega
  obtain ⟨V, hV⟩ : ∃ V, V = cntV l ts t := ⟨_, rfl⟩
  rw [← hV]
  have hV0 : V = .tup [ints (ts.foldl (cSt l t) (List.replicate l.length 0, 0)).1, .int (ts.foldl (cSt l t) (List.replicate l.length 0, 0)).2] := hV
  refine loop_list (σ := List Int × Int) ts (fun n s => [.int s.2, .int (n : Nat), ints s.1]) (fun n rest s => V = .tup [ints (rest.foldl (cSt l t) s).1, .int (rest.foldl (cSt l t) s).2] ∧ s.1.length = l.length) (List.replicate l.length 0, 0) ?_ ⟨hV0, by simp⟩ ?_ ?_
  · rw [lst_len, ints_rep]
    rfl
  · rintro n x rest ⟨m, o⟩ K hx hr hn ⟨hg, hm⟩ hK
    have hw : wr ((n : Int) + 1) = (n : Int) + 1 := wr_id (by omega) (by omega)
    rw [List.foldl_cons] at hg
    simp only at hm
    have g0 : ∀ s', s' = cSt l t (m, o) x → K [.int s'.2, .int ((n : Nat) + 1), ints s'.1] := fun s' hs => hK _ s' (by simp) ⟨by rw [hs]; exact hg, by rw [hs, cSt_len]; exact hm⟩
    clear hg hK
    have hat := tat_fn x t
    simp [hn, lst_at hx, encT, hw]
    refine ⟨_, hat, ?_⟩
    rcases tatV_cases x t with ⟨h1, h2⟩ | ⟨h1, h2⟩
    · rw [h2]
      have hp := splace_fn l (atN x t).p (atN x t).h ho
      have g1 : 0 ≤ plc l (atN x t).p (atN x t).h → K [.int o, .int ((n : Nat) + 1), ints (m.set (plc l (atN x t).p (atN x t).h).toNat (wr (m.getD (plc l (atN x t).p (atN x t).h).toNat 0 + 1)))] := fun q => g0 (m.set (plc l (atN x t).p (atN x t).h).toNat (wr (m.getD (plc l (atN x t).p (atN x t).h).toNat 0 + 1)), o) (by unfold cSt; rw [if_neg (by simp [h1]), if_pos q])
      have g2 : ¬ 0 ≤ plc l (atN x t).p (atN x t).h → K [.int (wr (o + 1)), .int ((n : Nat) + 1), ints m] := fun q => g0 (m, wr (o + 1)) (by unfold cSt; rw [if_neg (by simp [h1]), if_neg q])
      have hlt : plc l (atN x t).p (atN x t).h < l.length := plc_lt
      clear g0 h2 h1
      generalize atN x t = a at *
      obtain ⟨nt, nx, ny, nh, nr, nb⟩ := a
      simp only [Nd.p] at hp g1 g2 hlt
      generalize plc l ⟨nx, ny⟩ nh = i at *
      simp [encN]
      refine ⟨_, hp, ?_⟩
      simp
      refine ⟨fun q => ?_, fun q => g2 (by omega)⟩
      obtain ⟨j, rfl⟩ : ∃ j : Nat, i = (j : Int) := ⟨i.toNat, by omega⟩
      have hjm : j < m.length := by omega
      have hmj : m[j]? = some (m.getD j 0) := by rw [List.getD_eq_getElem?_getD, List.getElem?_eq_getElem hjm]; rfl
      have hin : (j : Int) < m.length := by omega
      have g1' := g1 q
      simp only [Int.toNat_natCast] at g1'
      have hse : AV.setEl (ints m) (.lit (.int .i64 (j : Nat))) 0 [.int (wr (m.getD j 0 + 1))] = ints (m.set j (wr (m.getD j 0 + 1))) := lst_setEl hmj (by simp [encI])
      have hgi := lst_at (s := 1) (enc := encI) (k := .i64) (j := 0) hmj
      generalize m.getD j 0 = v at *
      simp [hgi, encI, hse, hjm]
      exact g1'
    · rw [h2]
      have := g0 (m, o) (by unfold cSt; rw [if_pos h1])
      simp [encN, nd0, h1]
      exact this
  · rintro ⟨m, o⟩ K ⟨hg, hm⟩
    simp only [List.foldl_nil] at hg
    simp [hg, flat_ints]
def cCE (l : List Se) (ts : List (List Nd)) (t : Int) : Int := if lE l ts ≠ 0 then lE l ts else if t < 0 ∨ t > 200000 then 12 else 0
def cCV (l : List Se) (ts : List (List Nd)) (t : Int) : AV := if cCE l ts t = 0 then .tup [ints (cntS l ts t).1, .int (cntS l ts t).2, .int 0] else .tup [ints [], .int 0, .int (cCE l ts t)]
theorem cCount_fn (l : List Se) (ts : List (List Nd)) (t : Int) : Fn Tryz.prog 10 [ses l, tbs ts, .int t] (.tup [.row 3 1 true, .sc, .sc]) (cCV l ts t) := by
  refine fn_run mixed 3 (Γ := LoF.Γ) (ann := LoF.ann) Tryz.func10 rfl Tryz.call10 ((LoF.lCount_form _ _ _ _).mpr ?_)
  have hV : cCV l ts t = if cCE l ts t = 0 then .tup [ints (cntS l ts t).1, .int (cntS l ts t).2, .int 0] else .tup [ints [], .int 0, .int (cCE l ts t)] := rfl
  have hE : cCE l ts t = if lE l ts ≠ 0 then lE l ts else if t < 0 ∨ t > 200000 then 12 else 0 := rfl
  generalize cCV l ts t = V at hV ⊢
  generalize cCE l ts t = E at hV hE
  have hV0 : ∀ e, e ≠ 0 → E = e → V = .tup [.sl 1 [], .int 0, .int e] := fun e h1 h2 => by rw [hV, h2, if_neg h1]; rfl
  refine ⟨_, lcheck_fn l ts, ?_⟩
  simp
  refine ⟨fun z => (hV0 _ z (by rw [hE, if_pos z])).symm, fun z => ?_⟩
  rw [if_neg (by simp [z])] at hE
  obtain ⟨z1, z2, z3⟩ := lE_ok z
  refine ⟨fun a => ⟨a, (hV0 12 (by decide) (by rw [hE, if_pos (.inl a)])).symm⟩, fun a => ⟨a, fun b => (hV0 12 (by decide) (by rw [hE, if_pos (.inr b)])).symm, fun b => ?_⟩⟩
  have hE0 : E = 0 := by rw [hE, if_neg (by omega)]
  refine ⟨_, count_fn l ts t (chkS_ok z1) z2, ?_⟩
  rw [hV, if_pos hE0]
  simp [cntV]
  exact flat_ints _
end Go.Proofs.YtcdbodnhimbddaaGreat
/- slices.Repeat of one number. -/
namespace Go.Proofs.YtcdbodnhimbddaaGreat
open Go.RowKit
set_option linter.unusedVariables false
set_option linter.unusedSimpArgs false
set_option maxRecDepth 100000
section
variable {P : Program}
theorem wp_copy_run (w : World) {o : Oper} {a : Act} {K : Act → World → Prop} {Q : Exit → Act → World → Prop} (d s : Operand) (t t' : TypeId)
    (ho : o.op = .call { callee := .builtin .copy, args := #[d, s], argTypes := #[t, t'] }) (v u : Value) (hd : a.eval d = v) (hs : a.eval s = u) {v' : Value} {w' : World}
    (hr : (Builtin.copy_ #[t, t'] o.type #[v, u]).run P w = .ok v' w') (h : K (a.put o.dst v') w') : o.wp P a w K Q := by
  unfold Oper.wp execOp
  simp only [ho, resolve, invoke, builtin, Sem.run_bind, Sem.run_pure, Result.andThen_ok, List.map_toArray, List.map_cons, List.map_nil, hd, hs, hr]
  exact h
theorem wpList_copy_run (w : World) {ops : Array Oper} {rest : List Oper} {o : Oper} {a : Act} {Q : Exit → Act → World → Prop} (hgd : o.guard = none) (d s : Operand) (t t' : TypeId)
    (ho : o.op = .call { callee := .builtin .copy, args := #[d, s], argTypes := #[t, t'] }) (v u : Value) (hd : a.eval d = v) (hs : a.eval s = u) {v' : Value} {w' : World}
    (hr : (Builtin.copy_ #[t, t'] o.type #[v, u]).run P w = .ok v' w') (h : wpList P ops Q rest (a.put o.dst v') w') : wpList P ops Q (o :: rest) a w :=
  wpList_plain hgd fun _ hK => wp_copy_run w d s t t' ho v u hd hs hr (hK _ _ h)
theorem step_copy_run {ops : Array Oper} {o : Oper} {a : Act} {w : World} {K : Act → World → Prop} {Q : Exit → Act → World → Prop} {E : Prop}
    (hg : o.guard = none) (d x : Operand) (dT sT : TypeId) (hop : o.op = Op.call { callee := Callee.builtin Builtin.copy, args := #[d, x], argTypes := #[dT, sT] })
    (v u : Value) (hd : a.eval d = v) (hx : a.eval x = u) {v' : Value} {w' : World} (hr : (Builtin.copy_ #[dT, sT] o.type #[v, u]).run P w = .ok v' w') (hK : K (a.put o.dst v') w') :
    if Region.wanted o (yielded ops a.tmps) = true then Oper.wp P o a w K Q else E := by
  have hw : Region.wanted o (yielded ops a.tmps) = true := by simp [Region.wanted, hg]
  rw [if_pos hw]
  unfold Oper.wp
  simp [execOp, hop, resolve, invoke, builtin, hd, hx, hr, Result.andThen]
  exact hK
end
theorem info_int : (Tryz.prog.info? 3).map (fun i => (i.zero, i.size, i.bytes)) = some (some (.int .i64 0), 1, 8) := by kernel_rfl
theorem makeInts (n : Nat) (hn : n ≤ 1000000000) (w : World) : (Instr.makeSlice 24 (.int .i64 (n : Int)) (.int .i64 (n : Int))).run Tryz.prog w = .ok (.slice (some ⟨w.heap.size, 0, none⟩) n n) (w.alloc (.cells (madeCells #[.int .i64 0] n) 3)) :=
  run_make_row' 24 3 (.int .i64 0) 8 Tryz.underlying24 info_int rfl .i64 .i64 n (by omega) (by omega) w
def RepI (g n : Nat) (v : Int) (k : Nat) (w0 W : World) : Prop :=
  W.heap[g]? = some (.cells (List.replicate k (Value.int .i64 v) ++ List.replicate (n - k) (Value.int .i64 0)).toArray 3 (0, 0)) ∧ Below w0.heap.size w0 W ∧ w0.drawn ≤ W.drawn
theorem rep_cell {g n k : Nat} {v : Int} {w0 W : World} (h : RepI g n v k w0 W) {j : Nat} (hj : j < k) : W.cell? ⟨g, j, none⟩ = some (.int .i64 v) := by
  rw [cell_of_row W g j _ _ _ h.1]
  simp [List.getElem?_append, List.getElem?_replicate, hj]
theorem rep_copy {g n k m : Nat} {v : Int} {w0 W : World} (h : RepI g n v k w0 W) (hg : w0.heap.size ≤ g) (hkm : k + m ≤ n) (ty : TypeId) (dC : Nat) (a : Addr) (sL sC : Nat) (hm : m = Nat.min sL (n - k)) (hsrc : ∀ j, j < m → W.cell? (a.add j) = some (.int .i64 v)) :
    ∃ W', (Builtin.copy_ #[24, 24] ty #[.slice (some ⟨g, k, none⟩) (n - k) dC, .slice (some a) sL sC]).run Tryz.prog W = .ok (goInt m) W' ∧ RepI g n v (k + m) w0 W' := by
  have hz : (Tryz.prog.info? 3).map (·.size) = some 1 := by kernel_rfl
  rcases Nat.eq_zero_or_pos m with rfl | hpos
  · exact ⟨W, run_copy_none W _ _ ty 3 _ _ _ _ _ _ Tryz.underlying24 hz hm.symm, h⟩
  · have hr := run_copy_row Tryz.prog W 24 24 ty 3 g k (n - k) dC a sL sC _ 3 (List.replicate m (.int .i64 v)) Tryz.underlying24 hz h.1 (by simpa using hm) (fun j x hx => by
      rw [List.getElem?_replicate] at hx
      split at hx
      · rename_i hj; injection hx with hx; rw [← hx]; exact hsrc j hj
      · cases hx) (by simp; omega) (fun x hx => by rw [List.eq_of_mem_replicate hx]; rfl)
    simp only [List.length_replicate] at hr
    refine ⟨_, hr, ?_, ?_, ?_⟩
    · rw [setRow_heap W g _ _ _ _ h.1]
      congr 3
      have e1 : (List.replicate k (Value.int .i64 v) ++ List.replicate (n - k) (Value.int .i64 0)).take k = List.replicate k (Value.int .i64 v) := by
        rw [List.take_append_of_le_length (by simp)]; simp
      have e2 : (List.replicate k (Value.int .i64 v) ++ List.replicate (n - k) (Value.int .i64 0)).drop (k + m) = List.replicate (n - (k + m)) (Value.int .i64 0) := by
        rw [List.drop_append]
        simp
        omega
      rw [e1, e2, List.replicate_append_replicate]
    · exact below_setRow h.2.1 hg _
    · exact h.2.2
theorem rep_fn (v : Int) (n : Nat) (hn : n ≤ 12) : Fn Tryz.prog 24 [ints [v], .int (n : Nat)] (.row 3 1 true) (ints (List.replicate n v)) := by
  refine ⟨Tryz.call24, fun w ok cargs hok hgl hsz hargs => calls_of_wp Tryz.func24 rfl ?_⟩
  obtain ⟨c0, c1, rfl⟩ : ∃ c0 c1, cargs = #[c0, c1] := by
    obtain ⟨c⟩ := cargs
    match c, hsz with
    | [a, b], _ => exact ⟨a, b, rfl⟩
  have h0 : RV w ok (ints [v]) c0 := hargs 0 (by simp)
  have h1 : RV w ok (.int (n : Nat)) c1 := hargs 1 (by simp)
  obtain rfl := RV.lit_iff.1 h1
  obtain ⟨b, off, cc, rfl, hcell⟩ : ∃ b off cc, c0 = .slice (some ⟨b, off, none⟩) 1 cc ∧ w.cell? ⟨b, off, none⟩ = some (.int .i64 v) := by
    cases h0 with
    | sl s L A m c us hm hmc hc hs hA hone hu =>
      obtain ⟨b, off, e, _, _, hcell⟩ := hA (by rw [← hm]; simp)
      have hm1 : m = 1 := by rw [← hm]; rfl
      subst hm1
      refine ⟨b, off, c, by rw [e], ?_⟩
      have e1 := hcell 0 0 (by omega) (by omega)
      have e2 := RV.lit_iff.1 (hu 0 0 (by omega) (by omega))
      simpa [e2] using e1
  have hblt : b < w.heap.size := by
    unfold World.cell? at hcell
    cases hh : w.heap[b]? with
    | none => simp [hh] at hcell
    | some o => exact (Array.getElem?_eq_some_iff.1 hh).1
  simp only [Tryz.ntmps24, List.size_toArray, List.length_cons, List.length_nil, Nat.reduceAdd, Nat.reduceSub, Array.replicate_succ, Array.replicate_zero, List.push_toArray, List.append_toArray, List.nil_append, List.cons_append]
  have hu1 : IntKind.u64.wrap (n : Int) = (n : Int) := by simp [IntKind.wrap, IntKind.bits, IntKind.signed]; omega
  have hi1 : IntKind.i64.wrap (n : Int) = (n : Int) := wrap64 (by omega) (by omega)
  have hmul := mul_fn n hn
  go_wp2_with fail
  refine (hmul.2 w ok #[.int .u64 1, .int .u64 (n : Nat)] hok hgl rfl (fun i hi => ?_)).mono ?_
  · have hi : i < 2 := hi
    have : i = 0 ∨ i = 1 := by omega
    rcases this with rfl | rfl
    · exact .lit _
    · exact .lit _
  rintro e w1 ⟨v1, rfl, hb1, ⟨vs1, rfl, hs1, _, hv1⟩, _, hd1⟩
  have q0 := RV.lit_iff.1 (hv1 0 (by simp))
  have q1 := RV.lit_iff.1 (hv1 1 (by simp))
  obtain ⟨z0, z1, rfl⟩ : ∃ z0 z1, vs1 = #[z0, z1] := by
    obtain ⟨vs⟩ := vs1
    match vs, hs1 with
    | [z0, z1], _ => exact ⟨z0, z1, rfl⟩
  simp at q0 q1
  subst q0 q1
  have hcell1 : w1.cell? ⟨b, off, none⟩ = some (.int .i64 v) := (World.cell?_of_block (hb1.block b hblt)).trans hcell
  have hle : ¬ (9223372036854775807 : Int) < n := by omega
  have hmk := makeInts n (by omega)
  obtain ⟨w2, hw2⟩ : ∃ w2, w2 = w1.alloc (.cells (madeCells #[.int .i64 0] n) 3) := ⟨_, rfl⟩
  have hbw1 : Below w.heap.size w w1 := hb1
  have hI0 : RepI w1.heap.size n v 0 w w2 := by
    refine ⟨?_, ?_, ?_⟩
    · rw [hw2, World.alloc_heap_new]
      congr 2
      apply Array.toList_inj.1
      rw [toList_madeCells_one]
      simp
    · rw [hw2]; exact hbw1.alloc hbw1.size _
    · rw [hw2]; exact hd1
  have hg : w.heap.size ≤ w1.heap.size := hbw1.size
  have hcell2 : w2.cell? ⟨b, off, none⟩ = some (.int .i64 v) := (World.cell?_of_block (hI0.2.1.block b hblt)).trans hcell
  obtain ⟨w3, hc3, hI3⟩ := rep_copy (m := min 1 n) hI0 hg (by omega) 3 n ⟨b, off, none⟩ 1 cc (by simp [Nat.min_def]) (fun j hj => by
    obtain rfl : j = 0 := by omega
    exact hcell2)
  rw [hw2] at hc3
  simp only [Nat.sub_zero] at hc3
  go_wp2_with (at_builtin; refine wpList_copy_run _ rfl _ _ 24 24 rfl _ _ rfl rfl hc3 ?_)
  go_loopw [8] (fun p wr => ∃ k : Nat, p = .int .i64 k ∧ min 1 n ≤ k ∧ k ≤ n ∧ RepI w1.heap.size n v k w wr) (fun p wr => n - (intOf p).toNat)
  case atStart => exact ⟨min 1 n, rfl, Nat.le_refl _, Nat.min_le_right _ _, by simpa using hI3⟩
  case round =>
    obtain ⟨k, rfl, hk1, hkn, hIk⟩ := hrel
    rcases Nat.lt_or_ge k n with hk | hk
    · have hkn' : (k : Int) < n := by omega
      have hk0 : 0 < k := by have : min 1 n = 1 := Nat.min_eq_left (by omega); omega
      obtain ⟨w5, hc5, hI5⟩ := rep_copy (m := min k (n - k)) (W := wr.drew) ⟨hIk.1, hIk.2.1.drew, Nat.le_trans hIk.2.2 (Nat.le_succ _)⟩ hg (by omega) 3 (n - k) ⟨w1.heap.size, 0, none⟩ k n (by simp [Nat.min_def]) (fun j hj => by
        have := rep_cell hIk (j := j) (by omega)
        simp only [Addr.add]
        split
        · rename_i hz; subst hz; exact this
        · simpa using this)
      have hne : ¬ n = k := by omega
      have hwk : IntKind.i64.wrap ((k : Int) + ((min k (n - k) : Nat) : Int)) = ((k + min k (n - k) : Nat) : Int) := by rw [wrap64 (by omega) (by omega)]; simp
      go_wp2_with fail
      have hmo := mixed
      go_region_law_o (refine step_copy_run rfl _ _ 24 24 rfl _ _ (by simp [Act.eval, Act.put]) (by simp [Act.eval, Act.put]) hc5 ?_)
      simp [Act.put, Act.eval]
      go_wp2_with fail
      have hm0 : 0 < min k (n - k) := by simp [Nat.min_def]; split <;> omega
      refine ⟨⟨k + min k (n - k), by simp, by omega, by omega, hI5⟩, ?_⟩
      simp only [intOf]
      omega
    · obtain rfl : k = n := by omega
      have hkn' : ¬ (k : Int) < k := by omega
      go_wp2_with fail
      refine ⟨rfl, _, results_tmp rfl _ _ _, _, rfl, hIk.2.1, ?_, fun j i j' i' hr hr' hne => ?_, hIk.2.2⟩
      · refine ⟨List.replicate k [.int v], List.replicate k (.int .i64 v), by simp [lst, encI], by omega, fun y hy => by rw [List.eq_of_mem_replicate hy]; rfl, ⟨by simp, .inr ⟨w1.heap.size, k, _, by simp, hg, hIk.1, by simp, by simp [maxLen]; omega, by simp, by simp⟩⟩, fun u hu => by rw [List.eq_of_mem_replicate hu]; rfl, fun i j hi hj => ?_⟩
        have hi : i < k := by simpa using hi
        have hj : j = 0 := by omega
        subst hj
        have e1 : gt2 (List.replicate k [.int v]) i 0 = .int v := by simp [gt2, List.getD_eq_getElem?_getD, List.getElem?_replicate, hi]
        have e2 : (List.replicate k (Value.int .i64 v)).getD (i * 1 + 0) undef = .int .i64 v := by simp [List.getD_eq_getElem?_getD, List.getElem?_replicate, hi]
        rw [e1, e2]
        exact .lit _
      · have hl : ∀ j i, isRow (leafSh j i (.row 3 1 true)) = true → j = 0 ∧ i = 0 := fun j i h => by
          cases j with
          | zero => cases i with
            | zero => exact ⟨rfl, rfl⟩
            | succ i => cases h
          | succ j => cases i <;> cases h
        obtain ⟨rfl, rfl⟩ := hl j i hr
        obtain ⟨rfl, rfl⟩ := hl j' i' hr'
        exact absurd rfl (hne.elim id id)
end Go.Proofs.YtcdbodnhimbddaaGreat
/- loads: the greatest numbers. -/
namespace Go.Proofs.YtcdbodnhimbddaaGreat
open Go.RowKit
set_option linter.unusedVariables false
set_option linter.unusedSimpArgs false
set_option maxRecDepth 100000
theorem mix_len {A B : List Int} (hl : A.length = B.length) (j : Nat) : (A.take j ++ B.drop j).length = B.length := by simp; omega
theorem mix_at {A B : List Int} (hl : A.length = B.length) {j : Nat} (hj : j < B.length) : (A.take j ++ B.drop j)[j]? = some (B.getD j 0) := by
  rw [List.getElem?_append_right (by simp; omega)]
  simp
  rw [show j - min j A.length = 0 by omega]
  simp [hj]
theorem mix_set {A B : List Int} (hl : A.length = B.length) {j : Nat} (hj : j < B.length) : (A.take j ++ B.drop j).set j (A.getD j 0) = A.take (j + 1) ++ B.drop (j + 1) := by
  apply List.ext_getElem?
  intro i
  by_cases hij : i = j
  · subst hij
    rw [List.getElem?_set_self (by rw [mix_len hl]; exact hj), List.getElem?_append_left (by simp; omega), List.getElem?_take_of_lt (by omega)]
    rw [List.getD_eq_getElem?_getD, List.getElem?_eq_getElem (by omega)]; rfl
  · rw [List.getElem?_set_ne (fun e => hij e.symm)]
    rcases Nat.lt_or_ge i j with h | h
    · rw [List.getElem?_append_left (by simp; omega), List.getElem?_append_left (by simp; omega), List.getElem?_take_of_lt h, List.getElem?_take_of_lt (by omega)]
    · rw [List.getElem?_append_right (by simp; omega), List.getElem?_append_right (by simp; omega)]
      simp
      congr 1
      omega
theorem mix_same {A B : List Int} (hl : A.length = B.length) {j : Nat} (hj : j < B.length) (h : A.getD j 0 = B.getD j 0) : A.take j ++ B.drop j = A.take (j + 1) ++ B.drop (j + 1) := by
  rw [← mix_set hl hj, h]
  apply List.ext_getElem?
  intro i
  by_cases hij : i = j
  · subst hij
    rw [List.getElem?_set_self (by rw [mix_len hl]; exact hj), mix_at hl hj]
  · rw [List.getElem?_set_ne (fun e => hij e.symm)]
def pkM (n m : List Int) : List Int := (List.range m.length).map fun i => if m.getD i 0 < n.getD i 0 then n.getD i 0 else m.getD i 0
def pkA (n m a : List Int) (t : Int) : List Int := (List.range a.length).map fun i => if m.getD i 0 < n.getD i 0 then t else a.getD i 0
theorem pkM_len (n m : List Int) : (pkM n m).length = m.length := by simp [pkM]
theorem pkA_len (n m a : List Int) (t : Int) : (pkA n m a t).length = a.length := by simp [pkA]
theorem pkM_at {n m : List Int} {i : Nat} (hi : i < m.length) : (pkM n m).getD i 0 = if m.getD i 0 < n.getD i 0 then n.getD i 0 else m.getD i 0 := by
  simp [pkM, List.getD_eq_getElem?_getD, List.getElem?_map, List.getElem?_range hi]
theorem pkA_at {n m a : List Int} {t : Int} {i : Nat} (hi : i < a.length) : (pkA n m a t).getD i 0 = if m.getD i 0 < n.getD i 0 then t else a.getD i 0 := by
  simp [pkA, List.getD_eq_getElem?_getD, List.getElem?_map, List.getElem?_range hi]
def pkS (l : List Se) (ts : List (List Nd)) (f : Int) : Nat → List Int × List Int
  | 0 => (List.replicate l.length 0, List.replicate l.length f)
  | k + 1 => (pkM (cntS l ts (f + k)).1 (pkS l ts f k).1, pkA (cntS l ts (f + k)).1 (pkS l ts f k).1 (pkS l ts f k).2 (f + k))
theorem pkS_len (l : List Se) (ts : List (List Nd)) (f : Int) : ∀ k, (pkS l ts f k).1.length = l.length ∧ (pkS l ts f k).2.length = l.length
  | 0 => by simp [pkS]
  | k + 1 => by
    have := pkS_len l ts f k
    rw [pkS, pkM_len, pkA_len]
    exact this
def pkE (l : List Se) (ts : List (List Nd)) (s : Sn) : Int := if lE l ts ≠ 0 then lE l ts else snE s
def pkN (s : Sn) : Nat := (s.t - s.f).toNat
def pkV (l : List Se) (ts : List (List Nd)) (s : Sn) : AV := if pkE l ts s = 0 then .tup [ints (pkS l ts s.f (pkN s)).1, ints (pkS l ts s.f (pkN s)).2, .int 0] else .tup [ints [], ints [], .int (pkE l ts s)]
theorem ints_at {m : List Int} {j : Nat} (h : j < m.length) : AV.at (ints m) (.lit (.int .i64 (j : Nat))) 0 = .int (m.getD j 0) := by
  have h2 : m[j]? = some (m.getD j 0) := by rw [List.getD_eq_getElem?_getD, List.getElem?_eq_getElem h]; rfl
  rw [lst_at h2]
  rfl
theorem ints_set {m : List Int} {j : Nat} (h : j < m.length) (v : Int) : AV.setEl (ints m) (.lit (.int .i64 (j : Nat))) 0 [.int v] = ints (m.set j v) := by
  have h2 : m[j]? = some (m.getD j 0) := by rw [List.getD_eq_getElem?_getD, List.getElem?_eq_getElem h]; rfl
  exact lst_setEl h2 (by simp [encI])
theorem peaks_fn (l : List Se) (ts : List (List Nd)) (s : Sn) : Fn Tryz.prog 13 [ses l, tbs ts, sn s] (.tup [.row 3 1 true, .row 3 1 true, .sc]) (pkV l ts s) := by
  have e := LoF.peaks_form (ses l) (tbs ts) (sn s) (pkV l ts s)
  have k := fun h => fn_run mixed 3 (Γ := LoF.Γ) (ann := LoF.ann) Tryz.func13 rfl Tryz.call13 (e.mpr h)
  refine k ?_
  clear k e
  have hV : pkV l ts s = if pkE l ts s = 0 then .tup [ints (pkS l ts s.f (pkN s)).1, ints (pkS l ts s.f (pkN s)).2, .int 0] else .tup [ints [], ints [], .int (pkE l ts s)] := rfl
  have hE : pkE l ts s = if lE l ts ≠ 0 then lE l ts else snE s := rfl
  generalize pkV l ts s = V at hV ⊢
  generalize pkE l ts s = E at hV hE
  have hV0 : ∀ e, e ≠ 0 → E = e → V = .tup [.sl 1 [], .sl 1 [], .int e] := fun e h1 h2 => by rw [hV, h2, if_neg h1]; rfl
  have hsp := lspan_fn s
  have hN : (pkN s : Int) = max (s.t - s.f) 0 := by unfold pkN; omega
  have hok := snE_ok (s := s)
  generalize pkN s = N at *
  obtain ⟨f, u⟩ := s
  simp only at hN hok
  refine ⟨by simp [encSn], _, lcheck_fn l ts, ?_⟩
  simp
  refine ⟨fun z => (hV0 _ z (by rw [hE, if_pos z])).symm, fun z => ?_⟩
  rw [if_neg (by simp [z])] at hE
  obtain ⟨z1, z2, z3⟩ := lE_ok z
  have ho := chkS_ok z1
  have hl := ho.1
  simp [encSn]
  refine ⟨_, hsp, ?_⟩
  simp
  refine ⟨fun y => (hV0 _ y hE).symm, fun y => ?_⟩
  obtain ⟨y1, y2, y3, y4⟩ := hok y
  have hE0 : E = 0 := by rw [hE, y]
  rw [hE0, if_pos rfl] at hV
  refine ⟨?_, rfl, _, rep_fn f l.length hl, ?_⟩
  · simp [AV.mkOk]
    omega
  rw [ints_rep]
  refine loop_nat (σ := Unit) N (fun n _ => [.int (f + n), ints (pkS l ts f n).1, ints (pkS l ts f n).2]) (fun n _ => True) () (by simp [pkS]) trivial ?_ ?_
  · rintro n _ K hn _ hK
    obtain ⟨p1, p2⟩ := pkS_len l ts f n
    have hw : wr (f + (n : Int) + 1) = f + (n : Int) + 1 := wr_id (by omega) (by omega)
    have g := hK [.int (f + ((n + 1 : Nat) : Int)), ints (pkS l ts f (n + 1)).1, ints (pkS l ts f (n + 1)).2] () rfl trivial
    rw [show pkS l ts f (n + 1) = (pkM (cntS l ts (f + n)).1 (pkS l ts f n).1, pkA (cntS l ts (f + n)).1 (pkS l ts f n).1 (pkS l ts f n).2 (f + n)) from rfl] at g
    clear hK
    have hcl := cntS_len l ts (f + n)
    have hct := count_fn l ts (f + n) ho z2
    unfold cntV at hct
    generalize cntS l ts (f + n) = cs at *
    generalize pkS l ts f n = ms at *
    obtain ⟨c, o⟩ := cs
    obtain ⟨m, a⟩ := ms
    simp only at hcl p1 p2 g
    have hlt : f + (n : Int) < u := by omega
    simp [hlt]
    refine ⟨_, hct, ?_⟩
    simp
    have ll1 : (pkM c m).length = m.length := pkM_len _ _
    have ll2 : (pkA c m a (f + n)).length = a.length := pkA_len _ _ _ _
    refine loop_nat (σ := Unit) l.length (fun j _ => [.int (j : Nat), ints ((pkM c m).take j ++ m.drop j), ints ((pkA c m a (f + n)).take j ++ a.drop j)]) (fun j _ => True) () (by simp) trivial ?_ ?_
    · rintro j _ K2 hj _ hK2
      have hwj : wr ((j : Int) + 1) = (j : Int) + 1 := wr_id (by omega) (by omega)
      have g2 := hK2 [.int ((j : Nat) + 1), ints ((pkM c m).take (j + 1) ++ m.drop (j + 1)), ints ((pkA c m a (f + n)).take (j + 1) ++ a.drop (j + 1))] () (by simp) trivial
      clear hK2
      have hcj := ints_at (m := c) (j := j) (by omega)
      have hml := mix_len (A := pkM c m) (B := m) ll1 j
      have hal := mix_len (A := pkA c m a (f + n)) (B := a) ll2 j
      have hmj := ints_at (m := (pkM c m).take j ++ m.drop j) (j := j) (by omega)
      have hmv : ((pkM c m).take j ++ m.drop j).getD j 0 = m.getD j 0 := by rw [List.getD_eq_getElem?_getD, mix_at ll1 (by omega)]; rfl
      rw [hmv] at hmj
      have s1 := mix_set (A := pkM c m) (B := m) ll1 (j := j) (by omega)
      have s2 := mix_set (A := pkA c m a (f + n)) (B := a) ll2 (j := j) (by omega)
      have q1 := mix_same (A := pkM c m) (B := m) ll1 (j := j) (by omega)
      have q2 := mix_same (A := pkA c m a (f + n)) (B := a) ll2 (j := j) (by omega)
      rw [pkM_at (by omega)] at s1 q1
      rw [pkA_at (by omega)] at s2 q2
      have i1 := ints_set (m := (pkM c m).take j ++ m.drop j) (j := j) (by omega) (c.getD j 0)
      have i2 := ints_set (m := (pkA c m a (f + n)).take j ++ a.drop j) (j := j) (by omega) (f + n)
      have hb1 : j < c.length := by omega
      have hb2 : (j : Int) < ((pkM c m).take j ++ m.drop j).length := by omega
      have hb3 : (j : Int) < ((pkA c m a (f + n)).take j ++ a.drop j).length := by omega
      have hb4 : (j : Int) < c.length := by omega
      rw [← s1, ← s2] at g2
      generalize (pkM c m).take j ++ m.drop j = M at *
      generalize (pkA c m a (f + n)).take j ++ a.drop j = A at *
      generalize m.getD j 0 = mv at *
      generalize c.getD j 0 = cv at *
      generalize a.getD j 0 = av at *
      have hjc : j < l.length := hj
      simp [hcl, hjc, hcj, hmj, hwj, hml, hal, p1, p2, i1, i2]
      refine ⟨fun q => ?_, fun q => ?_⟩
      · rw [if_pos q, if_pos q] at g2
        exact g2
      · rw [s1, s2] at g2
        rw [if_neg (by omega)] at q1 q2
        rw [q1 rfl, q2 rfl]
        exact g2
    · rintro _ K2 _
      rw [List.take_of_length_le (by omega), List.take_of_length_le (by omega), List.drop_of_length_le (by omega), List.drop_of_length_le (by omega)]
      rw [show f + ((n + 1 : Nat) : Int) = f + n + 1 by omega] at g
      simp [hcl, hw]
      exact g
  · rintro _ K _
    have hge : ¬ f + (N : Int) < u := by omega
    have f1 := flat_ints (pkS l ts f N).1
    have f2 := flat_ints (pkS l ts f N).2
    simp [hge, hV]
    exact ⟨f1, f2⟩
end Go.Proofs.YtcdbodnhimbddaaGreat
/- sectors: the fact of two squares. -/
namespace Go.Proofs.YtcdbodnhimbddaaGreat
open Go.RowKit
set_option linter.unusedVariables false
set_option linter.unusedSimpArgs false
set_option maxRecDepth 100000
def sqV (x : Int) : Vol := ⟨[⟨x, 0⟩, ⟨x + 10, 0⟩, ⟨x + 10, 10⟩, ⟨x, 10⟩], 0, 100⟩
def twoL : List Se := [⟨⟨#[65]⟩, [sqV 0]⟩, ⟨⟨#[66]⟩, [sqV 10]⟩]
def strT (a b : Int) : List Nd := [⟨0, a, 5, 50, 0, 0⟩, ⟨10, b, 5, 50, 0, 0⟩]
theorem sq_fn (x : Int) (h1 : -1000000 ≤ x) (h2 : x ≤ 1000000) : Fn Tryz.prog 36 [.int x] (.agg [.row 49 2 true, .sc, .sc]) (vol (sqV x)) := by
  refine fn_run mixed 3 (Γ := SecF.Γ) (ann := SecF.ann) Tryz.func36 rfl Tryz.call36 ((SecF.sq_form _ _).mpr ?_)
  have hw : wr (x + 10) = x + 10 := wr_id (by omega) (by omega)
  simp [hw, sqV, encV, lst, encP]
theorem two_fn : Fn Tryz.prog 18 [] (.row 79 2 false) (ses twoL) := by
  refine fn_run mixed 3 (Γ := SecF.Γ) (ann := SecF.ann) Tryz.func18 rfl Tryz.call18 ((SecF.two_form _).mpr ?_)
  refine ⟨_, sq_fn 0 (by omega) (by omega), _, sq_fn 10 (by omega) (by omega), ?_⟩
  rfl
theorem str_fn (a b : Int) : Fn Tryz.prog 19 [.int a, .int b] (.row 53 6 true) (tube (strT a b)) := by
  refine fn_run mixed 3 (Γ := SecF.Γ) (ann := SecF.ann) Tryz.func19 rfl Tryz.call19 ((SecF.straight_form _ _ _).mpr ?_)
  simp [strT, lst, encN]
theorem two_chk : chkS twoL = 0 := by kernel_rfl
theorem fact_path : pthV twoL (strT 5 15) = .tup [vss [⟨0, 0, 5⟩, ⟨1, 6, 10⟩], .int 0] := by kernel_rfl
theorem fact_find : fndV twoL ⟨15, 5⟩ 50 = .tup [.int 1, .int 0] := by kernel_rfl
theorem fact_left : lfV twoL ⟨⟨0, 0⟩, ⟨20, 10⟩, 0, 200⟩ = .tup [.int 40000, .int 0] := by kernel_rfl
theorem fact_twice : chkS (twoL ++ [⟨⟨#[65]⟩, [sqV 0]⟩]) = 7 := by kernel_rfl
theorem fact_name : isName ⟨#[65, 49]⟩ = true := by kernel_rfl
theorem fact_box : bxE ⟨⟨0, 0⟩, ⟨0, 0⟩, 0, 0⟩ = 4 := by kernel_rfl
end Go.Proofs.YtcdbodnhimbddaaGreat
/- loads: the intervals with too many flights; the fact of two squares. -/
namespace Go.Proofs.YtcdbodnhimbddaaGreat
open Go.RowKit
set_option linter.unusedVariables false
set_option linter.unusedSimpArgs false
set_option maxRecDepth 100000
structure Lo where
  s : Int
  f : Int
  t : Int
deriving DecidableEq
def encL (x : Lo) : List AV := [.int x.s, .int x.f, .int x.t]
abbrev los (l : List Lo) : AV := lst 3 encL l
theorem flat_los (l : List Lo) : (los l).flatS := lst_flatS fun x _ z hz => by
  simp [encL] at hz
  rcases hz with rfl | rfl | rfl <;> exact .lit _
theorem los_app (a : List Lo) (x : Lo) : AV.app 3 (los a) (.sl 3 [[.int x.s, .int x.f, .int x.t]]) = los (a ++ [x]) := by simp [lst, AV.app, AV.els, encL]
theorem eqi_fn (l m : List Int) (hl : l.length ≤ maxLen) : Fn Tryz.prog 17 [ints l, ints m] .sc (.bool (decide (l = m))) := by
  refine fn_run mixed 3 (Γ := LoF.Γ) (ann := LoF.ann) Tryz.func17 rfl Tryz.call17 ((LoF.eqi_form _ _ _).mpr ?_)
  unfold maxLen at hl
  simp
  refine ⟨fun h => fun e => h (by rw [e]), fun h => equal_loop l m (by omega) rfl ?_ ?_⟩
  · rintro n x y K hx hy hn h1 h2
    have hw : wr ((n : Int) + 1) = (n : Int) + 1 := wr_id (by omega) (by omega)
    simp [hn, show n < m.length by omega, lst_at hx, lst_at hy, encI, hw]
    refine ⟨fun h => by simpa using h1 h, fun e1 => h2 e1⟩
  · intro K h1
    simpa using h1
theorem eqo_fn (l m : List Lo) (hl : l.length ≤ maxLen) : Fn Tryz.prog 21 [los l, los m] .sc (.bool (decide (l = m))) := by
  refine fn_run mixed 3 (Γ := LoF.Γ) (ann := LoF.ann) Tryz.func21 rfl Tryz.call21 ((LoF.eqo_form _ _ _).mpr ?_)
  unfold maxLen at hl
  simp
  refine ⟨fun h => fun e => h (by rw [e]), fun h => equal_loop l m (by omega) rfl ?_ ?_⟩
  · rintro n ⟨x1, x2, x3⟩ ⟨y1, y2, y3⟩ K hx hy hn h1 h2
    have hw : wr ((n : Int) + 1) = (n : Int) + 1 := wr_id (by omega) (by omega)
    simp [hn, show n < m.length by omega, lst_atAgg hx, lst_atAgg hy, encL, AV.eqPlOk, AV.nePl, hw]
    refine ⟨fun h => by simpa using h1 (by rintro ⟨⟩; simp at h), fun e1 e2 e3 => h2 (by rw [e1, e2, e3])⟩
  · intro K h1
    simpa using h1
/-! ### the order of the intervals -/
def orI : List Int → Int
  | [] => 0
  | x :: r => if x = 0 then orI r else x
theorem or_fn (l : List Int) (hl : l.length ≤ 100) : Fn Tryz.prog 28 [ints l] .sc (.int (orI l)) := by
  refine fn_run mixed 2 (Γ := LoG.Γ) (ann := LoG.ann) Tryz.func28 rfl Tryz.call28 ((LoG.or_form _ _).mpr ?_)
  simp
  refine loop_list (σ := Unit) l (fun n _ => [.int (n : Nat)]) (fun n rest _ => orI l = orI rest) () rfl rfl ?_ ?_
  · rintro n x rest _ K hx hr hn hg hK
    have hw : wr ((n : Int) + 1) = (n : Int) + 1 := wr_id (by omega) (by omega)
    simp [hn, lst_at hx, encI, hw]
    rw [orI] at hg
    exact ⟨fun h => by rw [hg, if_neg h], fun h => hK _ () (by simp) (by rw [hg, if_pos h])⟩
  · intro _ K hg
    simp [hg, orI]
def kL (x : Lo) : Int × Int := (x.f, x.s)
def ltK (a b : Int × Int) : Prop := a.1 < b.1 ∨ (a.1 = b.1 ∧ a.2 < b.2)
def cfL (x y : List AV) : Int := if (x.getD 1 default).num - (y.getD 1 default).num = 0 then (x.getD 0 default).num - (y.getD 0 default).num else (x.getD 1 default).num - (y.getD 1 default).num
theorem cfL_lt (a b : Lo) : cfL (encL a) (encL b) < 0 ↔ ltK (kL a) (kL b) := by
  have e : cfL (encL a) (encL b) = if a.f - b.f = 0 then a.s - b.s else a.f - b.f := rfl
  rw [e]
  unfold ltK kL
  split <;> simp only <;> omega
def inL (x : Lo) : Prop := 0 ≤ x.f ∧ x.f ≤ 1000000 ∧ 0 ≤ x.s ∧ x.s ≤ 1000000
theorem ov1_fn (a b : Lo) (ha : inL a) (hb : inL b) : Fn Tryz.prog 27 [.agg (encL a), .agg (encL b)] .sc (.int (cfL (encL a) (encL b))) := by
  refine fn_run mixed 3 (Γ := LoG.Γ) (ann := LoG.ann) Tryz.func27 rfl Tryz.call27 ((LoG.ov1_form _ _ _).mpr ?_)
  obtain ⟨a1, a2, a3, a4⟩ := ha
  obtain ⟨b1, b2, b3, b4⟩ := hb
  have h1 : wr (a.f - b.f) = a.f - b.f := wr_id (by omega) (by omega)
  have h2 : wr (a.s - b.s) = a.s - b.s := wr_id (by omega) (by omega)
  have q := or_fn [a.f - b.f, a.s - b.s] (by simp)
  have e : cfL (encL a) (encL b) = orI [a.f - b.f, a.s - b.s] := by
    show (if a.f - b.f = 0 then a.s - b.s else a.f - b.f) = _
    simp only [orI]
    split
    · split
      · omega
      · rfl
    · rfl
  rw [e]
  simp [encL, h1, h2]
  exact q
theorem sortL {l : List Lo} (hb : ∀ x ∈ l, inL x) (hs : (l.map kL).Pairwise ltK) (hl : l.length < 4611686018427387904) : FnU Tryz.prog 26 35 3 (los l) [.clo 27 []] false (los l) := by
  have hmem : ∀ x ∈ l.map encL, ∃ a ∈ l, x = encL a := fun x hx => by obtain ⟨a, ha, e⟩ := List.mem_map.1 hx; exact ⟨a, ha, e.symm⟩
  rw [List.pairwise_map] at hs
  refine sortU (P := Tryz.prog) (ρ := sortLo_ren) sortLo Tryz.isAgg35 Tryz.sizeOf35 (cs := []) (cf := cfL) (d := l.map encL) (s := l.map encL) (by omega) Tryz.call27 ?_ ?_ ?_ ?_ ?_ ?_ ?_ ?_
  · intro x hx y hy
    obtain ⟨a, ha, rfl⟩ := hmem x hx
    obtain ⟨b, hb', rfl⟩ := hmem y hy
    exact ov1_fn a b (hb a ha) (hb b hb')
  · intro x hx
    obtain ⟨a, ha, rfl⟩ := hmem x hx
    rw [cfL_lt]; unfold ltK; omega
  · intro x hx y hy z hz
    obtain ⟨a, ha, rfl⟩ := hmem x hx
    obtain ⟨b, hb, rfl⟩ := hmem y hy
    obtain ⟨c, hc, rfl⟩ := hmem z hz
    rw [cfL_lt, cfL_lt, cfL_lt]; unfold ltK; omega
  · intro x hx y hy z hz
    obtain ⟨a, ha, rfl⟩ := hmem x hx
    obtain ⟨b, hb, rfl⟩ := hmem y hy
    obtain ⟨c, hc, rfl⟩ := hmem z hz
    rw [cfL_lt, cfL_lt, cfL_lt]; unfold ltK; omega
  · intro x hx y hy
    obtain ⟨a, ha, rfl⟩ := hmem x hx
    obtain ⟨b, hb, rfl⟩ := hmem y hy
    rw [cfL_lt, cfL_lt]
    intro h1 h2
    obtain ⟨i, hi, rfl⟩ := List.mem_iff_getElem.1 ha
    obtain ⟨j, hj, rfl⟩ := List.mem_iff_getElem.1 hb
    rcases Nat.lt_trichotomy i j with q | q | q
    · exact absurd (List.pairwise_iff_getElem.1 hs i j hi hj q) h1
    · subst q; rfl
    · exact absurd (List.pairwise_iff_getElem.1 hs j i hj hi q) h2
  · simpa using hl
  · exact List.Perm.refl _
  · rw [List.pairwise_map]
    exact hs.imp fun h => by rw [cfL_lt]; unfold ltK at h ⊢; omega
/-! ### the intervals -/
def lo0 : Lo := ⟨0, 0, 0⟩
def lastT (x : Lo) (t : Int) : Lo := ⟨x.s, x.f, t⟩
def ovI (t : Int) (c m : List Int) (s : List Lo × List Int) (j : Nat) : List Lo × List Int :=
  if c.getD j 0 ≤ m.getD j 0 then (s.1, s.2.set j (-1))
  else if 0 ≤ s.2.getD j 0 then (s.1.set (s.2.getD j 0).toNat (lastT (s.1.getD (s.2.getD j 0).toNat lo0) t), s.2)
  else (s.1 ++ [⟨j, t, t⟩], s.2.set j s.1.length)
def ovR (t : Int) (c m : List Int) (s : List Lo × List Int) : Nat → List Lo × List Int
  | 0 => s
  | j + 1 => ovI t c m (ovR t c m s j) j
def ovS (l : List Se) (ts : List (List Nd)) (m : List Int) (f : Int) : Nat → List Lo × List Int
  | 0 => ([], List.replicate l.length (-1))
  | n + 1 => ovR (f + n) (cntS l ts (f + n)).1 m (ovS l ts m f n) l.length
structure OvOk (k : Nat) (b : Nat) (t : Int) (j : Nat) (s : List Lo × List Int) : Prop where
  len : s.2.length = k
  opn : ∀ i, i < k → s.2.getD i 0 < s.1.length
  srt : (s.1.map kL).Pairwise ltK
  bnd : ∀ x ∈ s.1.map kL, 0 ≤ x.1 ∧ 0 ≤ x.2 ∧ x.2 < k ∧ (x.1 < t ∨ (x.1 = t ∧ x.2 < j))
  big : s.1.length ≤ b + j
theorem set_key (o : List Lo) (i : Nat) (t : Int) (hi : i < o.length) : (o.set i (lastT (o.getD i lo0) t)).map kL = o.map kL := by
  rw [List.map_set]
  have : kL (lastT (o.getD i lo0) t) = (o.map kL)[i]'(by simpa using hi) := by
    simp [List.getD_eq_getElem?_getD, hi, kL, lastT]
  rw [this, List.set_getElem_self]
theorem getD_set {a : List Int} {i j : Nat} {v : Int} (h : j < a.length) : (a.set j v).getD i 0 = if i = j then v else a.getD i 0 := by
  rw [List.getD_eq_getElem?_getD, List.getD_eq_getElem?_getD]
  by_cases q : i = j
  · subst q; rw [List.getElem?_set_self h, if_pos rfl]; rfl
  · rw [List.getElem?_set_ne (fun e => q e.symm), if_neg q]
theorem OvOk.step {k b : Nat} {t : Int} {j : Nat} {s : List Lo × List Int} (h : OvOk k b t j s) (c m : List Int) (hj : j < k) (ht : 0 ≤ t) : OvOk k b t (j + 1) (ovI t c m s j) := by
  obtain ⟨o, a⟩ := s
  obtain ⟨h1, h2, h3, h4, h5⟩ := h
  simp only at h1 h2 h3 h4 h5
  unfold ovI
  split
  · refine ⟨by simp [h1], ?_, h3, ?_, by simp; omega⟩
    · intro i hi
      simp only
      rw [getD_set (by omega)]
      split
      · omega
      · exact h2 i hi
    · intro x hx
      obtain ⟨p1, p2, p3, p4⟩ := h4 x hx
      exact ⟨p1, p2, p3, by omega⟩
  · split
    · rename_i q
      have q0 : 0 ≤ a.getD j 0 := q
      have q2 := h2 j hj
      have hi : (a.getD j 0).toNat < o.length := by omega
      refine ⟨h1, ?_, ?_, ?_, by simp; omega⟩
      · intro i hi
        have := h2 i hi
        simpa using this
      · simp only
        rw [set_key _ _ _ hi]; exact h3
      · intro x hx
        simp only at hx
        rw [set_key _ _ _ hi] at hx
        obtain ⟨p1, p2, p3, p4⟩ := h4 x hx
        exact ⟨p1, p2, p3, by omega⟩
    · refine ⟨by simp [h1], ?_, ?_, ?_, by simp; omega⟩
      · intro i hi
        simp only
        rw [getD_set (by omega)]
        have := h2 i hi
        simp only [List.length_append, List.length_cons, List.length_nil]
        split <;> omega
      · simp only [List.map_append, List.map_cons, List.map_nil]
        rw [List.pairwise_append]
        refine ⟨h3, by simp, ?_⟩
        intro x hx y hy
        simp at hy
        subst hy
        obtain ⟨p1, p2, p3, p4⟩ := h4 x hx
        unfold ltK kL
        exact p4
      · intro x hx
        simp only [List.map_append, List.map_cons, List.map_nil, List.mem_append, List.mem_singleton] at hx
        rcases hx with hx | rfl
        · obtain ⟨p1, p2, p3, p4⟩ := h4 x hx
          exact ⟨p1, p2, p3, by omega⟩
        · unfold kL
          simp
          omega
theorem OvOk.run {k b : Nat} {t : Int} {s : List Lo × List Int} (h : OvOk k b t 0 s) (c m : List Int) (ht : 0 ≤ t) : ∀ j, j ≤ k → OvOk k b t j (ovR t c m s j)
  | 0, _ => h
  | j + 1, hj => (OvOk.run h c m ht j (by omega)).step c m (by omega) ht
theorem OvOk.next {k b : Nat} {t : Int} {s : List Lo × List Int} (h : OvOk k b t k s) : OvOk k (b + k) (t + 1) 0 s :=
  ⟨h.len, h.opn, h.srt, fun x hx => by obtain ⟨p1, p2, p3, p4⟩ := h.bnd x hx; exact ⟨p1, p2, p3, by omega⟩, by have := h.big; omega⟩
theorem ovS_ok (l : List Se) (ts : List (List Nd)) (m : List Int) (f : Int) (hf : 0 ≤ f) : ∀ n : Nat, OvOk l.length (n * l.length) (f + n) 0 (ovS l ts m f n)
  | 0 => ⟨by simp [ovS], fun i hi => by
      have : (List.replicate l.length (-1 : Int)).getD i 0 = -1 := by rw [List.getD_eq_getElem?_getD]; simp [hi]
      show (List.replicate l.length (-1 : Int)).getD i 0 < _
      rw [this]; simp [ovS], by simp [ovS], by simp [ovS], by simp [ovS]⟩
  | n + 1 => by
    have h := (ovS_ok l ts m f hf n).run (cntS l ts (f + n)).1 m (by omega) l.length (Nat.le_refl _)
    have h2 := h.next
    rw [show f + ((n + 1 : Nat) : Int) = f + n + 1 by omega, Nat.add_mul, Nat.one_mul]
    exact h2
def ovE (l : List Se) (ts : List (List Nd)) (m : List Int) (s : Sn) : Int := if lE l ts ≠ 0 then lE l ts else if m.length ≠ l.length then 3 else snE s
def ovV (l : List Se) (ts : List (List Nd)) (m : List Int) (s : Sn) : AV := if ovE l ts m s = 0 then .tup [los (ovS l ts m s.f (pkN s)).1, .int 0] else .tup [los [], .int (ovE l ts m s)]
theorem los_set {o : List Lo} {i : Int} (h0 : 0 ≤ i) (h : i < o.length) (t : Int) : AV.setEl (los o) (.lit (.int .i64 i)) 2 [.int t] = los (o.set i.toNat (lastT (o.getD i.toNat lo0) t)) := by
  obtain ⟨j, rfl⟩ : ∃ j : Nat, i = (j : Int) := ⟨i.toNat, by omega⟩
  have hj : j < o.length := by omega
  simp only [Int.toNat_natCast]
  have h2 : o[j]? = some (o.getD j lo0) := by rw [List.getD_eq_getElem?_getD, List.getElem?_eq_getElem hj]; rfl
  exact lst_setEl h2 (by simp [encL, lastT])
theorem over_fn (l : List Se) (ts : List (List Nd)) (m : List Int) (s : Sn) (hm : m.length ≤ maxLen) : Fn Tryz.prog 7 [ses l, tbs ts, ints m, sn s] (.tup [.row 35 3 true, .sc]) (ovV l ts m s) := by
  have e := LoF.over_form (ses l) (tbs ts) (ints m) (sn s) (ovV l ts m s)
  have k := fun h => fn_run mixed 3 (Γ := LoF.Γ) (ann := LoF.ann) Tryz.func7 rfl Tryz.call7 (e.mpr h)
  refine k ?_
  clear k e
  unfold maxLen at hm
  have hV : ovV l ts m s = if ovE l ts m s = 0 then .tup [los (ovS l ts m s.f (pkN s)).1, .int 0] else .tup [los [], .int (ovE l ts m s)] := rfl
  have hE : ovE l ts m s = if lE l ts ≠ 0 then lE l ts else if m.length ≠ l.length then 3 else snE s := rfl
  generalize ovV l ts m s = V at hV ⊢
  generalize ovE l ts m s = E at hV hE
  have hV0 : ∀ e, e ≠ 0 → E = e → V = .tup [.sl 3 [], .int e] := fun e h1 h2 => by rw [hV, h2, if_neg h1]; rfl
  have hsp := lspan_fn s
  have hN : (pkN s : Int) = max (s.t - s.f) 0 := by unfold pkN; omega
  have hok := snE_ok (s := s)
  generalize pkN s = N at *
  obtain ⟨f, u⟩ := s
  simp only at hN hok
  refine ⟨by simp [encSn], _, lcheck_fn l ts, ?_⟩
  simp
  refine ⟨fun z => (hV0 _ z (by rw [hE, if_pos z])).symm, fun z => ?_⟩
  rw [if_neg (by simp [z])] at hE
  obtain ⟨z1, z2, z3⟩ := lE_ok z
  have ho := chkS_ok z1
  have hl := ho.1
  refine ⟨fun x => (hV0 _ (by decide) (by rw [hE, if_pos (by omega)])).symm, fun x => ?_⟩
  rw [if_neg (by omega)] at hE
  simp [encSn]
  refine ⟨_, hsp, ?_⟩
  simp
  refine ⟨fun y => (hV0 _ y hE).symm, fun y => ?_⟩
  obtain ⟨y1, y2, y3, y4⟩ := hok y
  have hE0 : E = 0 := by rw [hE, y]
  rw [hE0, if_pos rfl] at hV
  have hwm : wr (-1) = -1 := by kernel_rfl
  have hrp := rep_fn (-1) l.length hl
  refine ⟨_, hrp, ?_⟩
  refine loop_nat (σ := Unit) N (fun n _ => [.int (f + n), los (ovS l ts m f n).1, ints (ovS l ts m f n).2]) (fun n _ => True) () (by simp [ovS]) trivial ?_ ?_
  · rintro n _ K hn _ hK
    have hw : wr (f + (n : Int) + 1) = f + (n : Int) + 1 := wr_id (by omega) (by omega)
    have g := hK [.int (f + ((n + 1 : Nat) : Int)), los (ovS l ts m f (n + 1)).1, ints (ovS l ts m f (n + 1)).2] () rfl trivial
    rw [show ovS l ts m f (n + 1) = ovR (f + n) (cntS l ts (f + n)).1 m (ovS l ts m f n) l.length from rfl] at g
    clear hK
    have hcl := cntS_len l ts (f + n)
    have hct := count_fn l ts (f + n) ho z2
    unfold cntV at hct
    have hov := (ovS_ok l ts m f y1 n).run (cntS l ts (f + n)).1 m (by omega)
    have hnl : n * l.length ≤ 2000 * 12 := Nat.mul_le_mul (by omega) hl
    generalize n * l.length = B at *
    generalize cntS l ts (f + n) = cs at *
    generalize ovS l ts m f n = os at *
    obtain ⟨c, o⟩ := cs
    simp only at hcl g hov
    have hlt : f + (n : Int) < u := by omega
    simp [hlt]
    refine ⟨_, hct, ?_⟩
    simp
    refine loop_nat (σ := Unit) l.length (fun j _ => [.int (j : Nat), los (ovR (f + n) c m os j).1, ints (ovR (f + n) c m os j).2]) (fun j _ => True) () (by simp [ovR]) trivial ?_ ?_
    · rintro j _ K2 hj _ hK2
      have hwj : wr ((j : Int) + 1) = (j : Int) + 1 := wr_id (by omega) (by omega)
      have g2 := hK2 [.int ((j : Nat) + 1), los (ovR (f + n) c m os (j + 1)).1, ints (ovR (f + n) c m os (j + 1)).2] () (by simp) trivial
      rw [show ovR (f + n) c m os (j + 1) = ovI (f + n) c m (ovR (f + n) c m os j) j from rfl] at g2
      clear hK2
      have hq := hov j (by omega)
      generalize ovR (f + n) c m os j = st at *
      obtain ⟨out, op⟩ := st
      obtain ⟨q1, q2, _, _, q5⟩ := hq
      simp only at q1 q2 q5
      have q2 := q2 j hj
      have hcj := ints_at (m := c) (j := j) (by omega)
      have hmj := ints_at (m := m) (j := j) (by omega)
      have hpj := ints_at (m := op) (j := j) (by omega)
      have i1 := ints_set (m := op) (j := j) (by omega) (-1)
      have i2 := ints_set (m := op) (j := j) (by omega) out.length
      have happ := los_app out ⟨j, f + n, f + n⟩
      simp only at happ
      have hroom : AV.room (los out) (.sl 3 [[.int (j : Nat), .int (f + n), .int (f + n)]]) 24 := by unfold AV.room; simp; omega
      have hls := fun h0 => los_set (o := out) (i := op.getD j 0) h0 q2 (f + n)
      have hb1 : j < c.length := by omega
      have hb2 : j < m.length := by omega
      have hb3 : j < op.length := by omega
      have g21 := fun (a : c.getD j 0 ≤ m.getD j 0) => g2
      unfold ovI at g2
      simp only at g2
      clear g21
      generalize c.getD j 0 = cv at *
      generalize m.getD j 0 = mv at *
      generalize op.getD j 0 = pv at *
      have hjc : j < l.length := hj
      simp [hcl, hjc, hcj, hmj, hpj, hwj, q1, x, i1]
      refine ⟨fun a => ?_, fun a => ⟨fun b => ?_, fun b => ?_⟩⟩
      · rw [if_pos a] at g2
        exact g2
      · rw [if_neg (by omega), if_pos b] at g2
        rw [hls b]
        refine ⟨⟨by omega, by omega⟩, ?_⟩
        exact g2
      · rw [if_neg (by omega), if_neg (by omega)] at g2
        refine ⟨hroom, ?_⟩
        rw [happ, i2]
        exact g2
    · rintro _ K2 _
      rw [show f + ((n + 1 : Nat) : Int) = f + n + 1 by omega] at g
      simp [hcl, hw]
      exact g
  · rintro _ K _
    have hge : ¬ f + (N : Int) < u := by omega
    have hov := ovS_ok l ts m f y1 N
    have hnl : N * l.length ≤ 2000 * 12 := Nat.mul_le_mul (by omega) hl
    generalize N * l.length = B at *
    generalize ovS l ts m f N = st at *
    obtain ⟨out, op⟩ := st
    obtain ⟨q1, q2, q3, q4, q5⟩ := hov
    simp only at q3 q4 q5
    have hso := sortL (l := out) (fun x hx => by
      have := q4 (kL x) (List.mem_map.2 ⟨x, hx, rfl⟩)
      unfold kL at this
      unfold inL
      simp only at this
      omega) q3 (by omega)
    have f1 := flat_los out
    simp [hge, hV]
    exact ⟨hso, f1⟩
/-! ### the fact -/
def entI (m : List Int) (v : Vs) : List Int := if 0 ≤ v.s then m.set v.s.toNat (wr (m.getD v.s.toNat 0 + 1)) else m
theorem entI_len (m : List Int) (v : Vs) : (entI m v).length = m.length := by unfold entI; split <;> simp
theorem entr_fn (l : List Se) (t : List Nd) (vs : List Vs) (hz : lE l [t] = 0) (hp : pthV l t = .tup [vss vs, .int 0]) (hv : ∀ v ∈ vs, v.s < l.length) (hvl : vs.length ≤ 1000000) :
    Fn Tryz.prog 20 [ses l, tbs [t]] (.tup [.row 3 1 true, .sc]) (.tup [ints (vs.foldl entI (List.replicate l.length 0)), .int 0]) := by
  have e := LoF.entr_form (ses l) (tbs [t]) (.tup [ints (vs.foldl entI (List.replicate l.length 0)), .int 0])
  have k := fun h => fn_run mixed 3 (Γ := LoF.Γ) (ann := LoF.ann) Tryz.func20 rfl Tryz.call20 (e.mpr h)
  refine k ?_
  clear k e
  have hc := lcheck_fn l [t]
  rw [hz] at hc
  have hpf := path_fn l t
  rw [hp] at hpf
  have hl := (chkS_ok (lE_ok hz).1).1
  refine ⟨_, hc, ?_⟩
  simp
  refine ⟨?_, rfl, ?_⟩
  · simp [AV.mkOk]
    omega
  obtain ⟨R, hR⟩ : ∃ R, R = vs.foldl entI (List.replicate l.length 0) := ⟨_, rfl⟩
  rw [← hR, ints_rep]
  refine loop_list (σ := List Int) [t] (fun n s => [.int (n : Nat), ints s]) (fun n rest s => (rest = [t] ∧ s = List.replicate l.length 0) ∨ (rest = [] ∧ s = R)) (List.replicate l.length 0) (by simp) (.inl ⟨rfl, rfl⟩) ?_ ?_
  · rintro n x rest s K hx hr hn hg hK
    rcases hg with ⟨h1, h2⟩ | ⟨h1, _⟩
    · injection h1 with h1 h1'
      subst h1 h1' h2
      have g := hK [.int ((n : Nat) + 1), ints R] R (by simp) (.inr ⟨rfl, rfl⟩)
      clear hK
      have hw : wr ((n : Int) + 1) = (n : Int) + 1 := wr_id (by simp at hn; omega) (by simp at hn; omega)
      obtain rfl : n = 0 := by simpa using hn
      have hat := lst_at (s := 1) (enc := encT) (k := .i64) (j := 0) hx
      simp only [Int.natCast_zero] at hat hw g
      simp [hat, encT, hw]
      refine ⟨_, hpf, ?_⟩
      simp
      refine loop_list (σ := List Int) vs (fun i s => [.int (i : Nat), ints s]) (fun i rest s => R = rest.foldl entI s ∧ s.length = l.length) (List.replicate l.length 0) (by simp) ⟨hR, by simp⟩ ?_ ?_
      · rintro i v rest s K2 hvi hri hi ⟨hg, hm⟩ hK2
        have hwi : wr ((i : Int) + 1) = (i : Int) + 1 := wr_id (by omega) (by omega)
        rw [List.foldl_cons] at hg
        have g2 := hK2 [.int ((i : Nat) + 1), ints (entI s v)] (entI s v) (by simp) ⟨hg, by rw [entI_len]; exact hm⟩
        clear hK2
        have hvs := hv v (List.mem_of_getElem? hvi)
        unfold entI at g2
        obtain ⟨vs', vf, vt⟩ := v
        simp only at g2 hvs
        simp [hi, lst_atAgg hvi, encVs, hwi]
        refine ⟨fun q => ?_, fun q => ?_⟩
        · obtain ⟨j, rfl⟩ : ∃ j : Nat, vs' = (j : Int) := ⟨vs'.toNat, by omega⟩
          rw [if_pos q] at g2
          simp only [Int.toNat_natCast] at g2
          have hj : j < s.length := by omega
          have a1 := ints_at (m := s) (j := j) hj
          have a2 := ints_set (m := s) (j := j) hj (wr (s.getD j 0 + 1))
          generalize s.getD j 0 = sv at *
          simp [hj, a1, a2]
          exact g2
        · rw [if_neg (by omega)] at g2
          exact g2
      · rintro s K2 ⟨hg, hm⟩
        simp only [List.foldl_nil] at hg
        subst hg
        simp
        exact g
    · cases h1
  · rintro s K hg
    rcases hg with ⟨h1, _⟩ | ⟨_, h2⟩
    · cases h1
    · subst h2
      have f1 := flat_ints s
      simp
      exact f1
theorem fact_count : cCV twoL [strT 5 15] 3 = .tup [ints [1, 0], .int 0, .int 0] := by kernel_rfl
theorem fact_peaks : pkV twoL [strT 5 15] ⟨0, 11⟩ = .tup [ints [1, 1], ints [0, 6], .int 0] := by kernel_rfl
theorem fact_over : ovV twoL [strT 5 15] [0, 1] ⟨0, 11⟩ = .tup [los [⟨0, 0, 5⟩], .int 0] := by kernel_rfl
theorem fact_ok : lE twoL [strT 5 15] = 0 := by kernel_rfl
theorem lfact_fn : Fn Tryz.prog 6 [] .sc (.bool true) := by
  have e := LoF.lfact_form (.bool true)
  have k := fun h => fn_run mixed 3 (Γ := LoF.Γ) (ann := LoF.ann) Tryz.func6 rfl Tryz.call6 (e.mpr h)
  refine k ?_
  clear k e
  have c1 := cCount_fn twoL [strT 5 15] 3
  rw [fact_count] at c1
  have c2 := peaks_fn twoL [strT 5 15] ⟨0, 11⟩
  rw [fact_peaks] at c2
  have c3 := over_fn twoL [strT 5 15] [0, 1] ⟨0, 11⟩ (by simp [maxLen])
  rw [fact_over] at c3
  have c4 := entr_fn twoL (strT 5 15) [⟨0, 0, 5⟩, ⟨1, 6, 10⟩] fact_ok fact_path (by simp [twoL]) (by simp)
  have e4 : ([⟨0, 0, 5⟩, ⟨1, 6, 10⟩] : List Vs).foldl entI (List.replicate twoL.length 0) = [1, 1] := by kernel_rfl
  rw [e4] at c4
  refine ⟨_, two_fn, _, str_fn 5 15, _, c1, _, c2, _, c3, _, c4, ?_⟩
  have d1 : Fn _ _ _ _ (.bool true) := eqi_fn [1, 0] [1, 0] (by simp [maxLen])
  have d2 : Fn _ _ _ _ (.bool true) := eqi_fn [1, 1] [1, 1] (by simp [maxLen])
  have d3 : Fn _ _ _ _ (.bool true) := eqi_fn [0, 6] [0, 6] (by simp [maxLen])
  have d4 : Fn _ _ _ _ (.bool true) := eqo_fn [⟨0, 0, 5⟩] [⟨0, 0, 5⟩] (by simp [maxLen])
  simp
  refine ⟨_, d1, ?_⟩
  simp
  refine ⟨_, d2, ?_⟩
  simp
  refine ⟨_, d3, ?_⟩
  simp
  refine ⟨_, d4, ?_⟩
  simp
  exact d2
end Go.Proofs.YtcdbodnhimbddaaGreat
/- sectors: the laws at their arguments. -/
namespace Go.Proofs.YtcdbodnhimbddaaGreat
open Go.RowKit
set_option linter.unusedVariables false
set_option linter.unusedSimpArgs false
set_option maxRecDepth 100000
theorem of1 {α : Type} {l : List α} (h : l.length = 1) : ∃ a, l = [a] := by
  match l, h with
  | [a], _ => exact ⟨a, rfl⟩
theorem of2 {α : Type} {l : List α} (h : l.length = 2) : ∃ a b, l = [a, b] := by
  match l, h with
  | [a, b], _ => exact ⟨a, b, rfl⟩
theorem of3 {α : Type} {l : List α} (h : l.length = 3) : ∃ a b c, l = [a, b, c] := by
  match l, h with
  | [a, b, c], _ => exact ⟨a, b, c, rfl⟩
theorem of4 {α : Type} {l : List α} (h : l.length = 4) : ∃ a b c d, l = [a, b, c, d] := by
  match l, h with
  | [a, b, c, d], _ => exact ⟨a, b, c, d, rfl⟩
theorem of6 {α : Type} {l : List α} (h : l.length = 6) : ∃ a b c d e f, l = [a, b, c, d, e, f] := by
  match l, h with
  | [a, b, c, d, e, f], _ => exact ⟨a, b, c, d, e, f, rfl⟩
theorem arg_intT {x : AV} (h : ArgOk Tryz.prog 3 x) : ∃ n, x = .int n ∧ I64 n := c_int (by kernel_rfl) (arg_cell (by kernel_rfl) h)
theorem arg_strT {x : AV} (h : ArgOk Tryz.prog 9 x) : ∃ s : ByteArray, x = .string s ∧ s.size ≤ maxLen := c_str (by kernel_rfl) (arg_cell (by kernel_rfl) h)
theorem arg_pt {x : AV} (h : ArgOk Tryz.prog 49 x) : ∃ q, x = pt q := by
  obtain ⟨cs, rfl, hl, hc⟩ := arg_agg (P := Tryz.prog) (t := 49) (tys := [3, 3]) (by kernel_rfl) (by kernel_rfl) h
  obtain ⟨a, b, rfl⟩ := of2 hl
  obtain ⟨s1, e1, _⟩ := c_int (by kernel_rfl) (hc 0 3 rfl)
  obtain ⟨s2, e2, _⟩ := c_int (by kernel_rfl) (hc 1 3 rfl)
  simp at e1 e2
  exact ⟨⟨s1, s2⟩, by rw [e1, e2]; rfl⟩
theorem arg_tube {x : AV} (h : ArgOk Tryz.prog 47 x) : ∃ l, x = tube l ∧ l.length ≤ maxLen := by
  obtain ⟨l, e, h1, _⟩ := c_lst (P := Tryz.prog) (encA := encN) (Q := fun _ => True) (tys := [3, 3, 3, 3, 3, 3]) (s := 6) (e := 53) (by kernel_rfl) (by kernel_rfl) (by kernel_rfl) (fun y hy hc => by
    obtain ⟨a, b, c, d, e, f, rfl⟩ := of6 hy
    obtain ⟨s1, e1, _⟩ := c_int (by kernel_rfl) (hc 0 3 rfl)
    obtain ⟨s2, e2, _⟩ := c_int (by kernel_rfl) (hc 1 3 rfl)
    obtain ⟨s3, e3, _⟩ := c_int (by kernel_rfl) (hc 2 3 rfl)
    obtain ⟨s4, e4, _⟩ := c_int (by kernel_rfl) (hc 3 3 rfl)
    obtain ⟨s5, e5, _⟩ := c_int (by kernel_rfl) (hc 4 3 rfl)
    obtain ⟨s6, e6, _⟩ := c_int (by kernel_rfl) (hc 5 3 rfl)
    simp at e1 e2 e3 e4 e5 e6
    exact ⟨⟨s1, s2, s3, s4, s5, s6⟩, by rw [e1, e2, e3, e4, e5, e6]; rfl, trivial⟩) (arg_cell (by kernel_rfl) h)
  exact ⟨l, e, h1⟩
theorem arg_ses {x : AV} (h : ArgOk Tryz.prog 22 x) : ∃ l, x = ses l ∧ l.length ≤ maxLen := by
  obtain ⟨l, e, h1, _⟩ := c_lst (P := Tryz.prog) (encA := encE) (Q := fun _ => True) (tys := [9, 77]) (s := 2) (e := 79) (by kernel_rfl) (by kernel_rfl) (by kernel_rfl) (fun y hy hc => by
    obtain ⟨a, b, rfl⟩ := of2 hy
    obtain ⟨s1, e1, _⟩ := c_str (by kernel_rfl) (hc 0 9 rfl)
    obtain ⟨s2, e2, _, _⟩ := c_lst (P := Tryz.prog) (encA := encV) (Q := fun _ => True) (tys := [81, 3, 3]) (s := 3) (e := 83) (by kernel_rfl) (by kernel_rfl) (by kernel_rfl) (fun y hy hc => by
      obtain ⟨a, b, c, rfl⟩ := of3 hy
      obtain ⟨s1, e1, _, _⟩ := c_lst (P := Tryz.prog) (encA := encP) (Q := fun _ => True) (tys := [3, 3]) (s := 2) (e := 49) (by kernel_rfl) (by kernel_rfl) (by kernel_rfl) (fun y hy hc => by
        obtain ⟨a, b, rfl⟩ := of2 hy
        obtain ⟨s1, e1, _⟩ := c_int (by kernel_rfl) (hc 0 3 rfl)
        obtain ⟨s2, e2, _⟩ := c_int (by kernel_rfl) (hc 1 3 rfl)
        simp at e1 e2
        exact ⟨⟨s1, s2⟩, by rw [e1, e2]; rfl, trivial⟩) (hc 0 81 rfl)
      obtain ⟨s2, e2, _⟩ := c_int (by kernel_rfl) (hc 1 3 rfl)
      obtain ⟨s3, e3, _⟩ := c_int (by kernel_rfl) (hc 2 3 rfl)
      simp at e1 e2 e3
      exact ⟨⟨s1, s2, s3⟩, by rw [e1, e2, e3]; rfl, trivial⟩) (hc 1 77 rfl)
    simp at e1 e2
    exact ⟨⟨s1, s2⟩, by rw [e1, e2]; rfl, trivial⟩) (arg_cell (by kernel_rfl) h)
  exact ⟨l, e, h1⟩
end Go.Proofs.YtcdbodnhimbddaaGreat
/- loads: the laws of counts and of peaks. -/
namespace Go.Proofs.YtcdbodnhimbddaaGreat
open Go.RowKit
set_option linter.unusedVariables false
set_option linter.unusedSimpArgs false
set_option maxRecDepth 100000
theorem arg_tbs {x : AV} (h : ArgOk Tryz.prog 23 x) : ∃ l, x = tbs l ∧ l.length ≤ maxLen := by
  obtain ⟨l, e, h1, _⟩ := c_lst (P := Tryz.prog) (encA := encT) (Q := fun _ => True) (tys := [47]) (s := 1) (e := 47) (by kernel_rfl) (by kernel_rfl) (by kernel_rfl) (fun y hy hc => by
    obtain ⟨a, rfl⟩ := of1 hy
    obtain ⟨s1, e1, _, _⟩ := c_lst (P := Tryz.prog) (encA := encN) (Q := fun _ => True) (tys := [3, 3, 3, 3, 3, 3]) (s := 6) (e := 53) (by kernel_rfl) (by kernel_rfl) (by kernel_rfl) (fun y hy hc => by
      obtain ⟨a, b, c, d, e, f, rfl⟩ := of6 hy
      obtain ⟨s1, e1, _⟩ := c_int (by kernel_rfl) (hc 0 3 rfl)
      obtain ⟨s2, e2, _⟩ := c_int (by kernel_rfl) (hc 1 3 rfl)
      obtain ⟨s3, e3, _⟩ := c_int (by kernel_rfl) (hc 2 3 rfl)
      obtain ⟨s4, e4, _⟩ := c_int (by kernel_rfl) (hc 3 3 rfl)
      obtain ⟨s5, e5, _⟩ := c_int (by kernel_rfl) (hc 4 3 rfl)
      obtain ⟨s6, e6, _⟩ := c_int (by kernel_rfl) (hc 5 3 rfl)
      simp at e1 e2 e3 e4 e5 e6
      exact ⟨⟨s1, s2, s3, s4, s5, s6⟩, by rw [e1, e2, e3, e4, e5, e6]; rfl, trivial⟩) (hc 0 47 rfl)
    simp at e1
    exact ⟨s1, by rw [e1]; rfl, trivial⟩) (arg_cell (by kernel_rfl) h)
  exact ⟨l, e, h1⟩
theorem arg_ints {x : AV} (h : ArgOk Tryz.prog 24 x) : ∃ l, x = ints l ∧ l.length ≤ maxLen := by
  obtain ⟨l, e, h1, _⟩ := c_lst (P := Tryz.prog) (encA := encI) (Q := fun _ => True) (tys := [3]) (s := 1) (e := 3) (by kernel_rfl) (by kernel_rfl) (by kernel_rfl) (fun y hy hc => by
    obtain ⟨a, rfl⟩ := of1 hy
    obtain ⟨s1, e1, _⟩ := c_int (by kernel_rfl) (hc 0 3 rfl)
    simp at e1
    exact ⟨s1, by rw [e1]; rfl, trivial⟩) (arg_cell (by kernel_rfl) h)
  exact ⟨l, e, h1⟩
theorem arg_sn {x : AV} (h : ArgOk Tryz.prog 26 x) : ∃ q, x = sn q := by
  obtain ⟨cs, rfl, hl, hc⟩ := arg_agg (P := Tryz.prog) (t := 26) (tys := [3, 3]) (by kernel_rfl) (by kernel_rfl) h
  obtain ⟨a, b, rfl⟩ := of2 hl
  obtain ⟨s1, e1, _⟩ := c_int (by kernel_rfl) (hc 0 3 rfl)
  obtain ⟨s2, e2, _⟩ := c_int (by kernel_rfl) (hc 1 3 rfl)
  simp at e1 e2
  exact ⟨⟨s1, s2⟩, by rw [e1, e2]; rfl⟩
theorem counts_fn (l : List Se) (ts : List (List Nd)) (t : Int) : Fn Tryz.prog 5 [ses l, tbs ts, .int t] .sc (.bool true) := by
  have e := LoF.counts_form (ses l) (tbs ts) (.int t) (.bool true)
  have k := fun h => fn_run mixed 3 (Γ := LoF.Γ) (ann := LoF.ann) Tryz.func5 rfl Tryz.call5 (e.mpr h)
  refine k ?_
  clear k e
  have hct := cCount_fn l ts t
  have hV : cCV l ts t = if cCE l ts t = 0 then .tup [ints (cntS l ts t).1, .int (cntS l ts t).2, .int 0] else .tup [ints [], .int 0, .int (cCE l ts t)] := rfl
  have hE : cCE l ts t = if lE l ts ≠ 0 then lE l ts else if t < 0 ∨ t > 200000 then 12 else 0 := rfl
  generalize cCV l ts t = V at hV hct
  generalize cCE l ts t = E at hV hE
  have hV0 : ∀ e, e ≠ 0 → E = e → V = .tup [.sl 1 [], .int 0, .int e] := fun e h1 h2 => by rw [hV, h2, if_neg h1]; rfl
  refine ⟨_, lfact_fn, by simp, by simp, by simp, _, hct, _, lerr_fn l ts, ?_⟩
  simp
  refine ⟨fun z => ?_, fun z => ?_⟩
  · rw [if_neg (by simp [z])] at hE
    refine ⟨fun a => ?_, fun a => ⟨a, z, fun b => ?_, fun b => ⟨z, ?_⟩⟩⟩
    · rw [hV0 12 (by decide) (by rw [hE, if_pos (.inl a)])]
      simp [a, z]
    · rw [hV0 12 (by decide) (by rw [hE, if_pos (.inr (by omega))])]
      simp
    · have hE0 : E = 0 := by rw [hE, if_neg (by omega)]
      rw [hE0, if_pos rfl] at hV
      obtain ⟨z1, z2, z3⟩ := lE_ok z
      have ho := chkS_ok z1
      have hl := ho.1
      refine ⟨?_, rfl, ?_⟩
      · simp [AV.mkOk]
        omega
      rw [ints_rep]
      refine loop_list (σ := List Int × Int) ts (fun n s => [.int s.2, .int (n : Nat), ints s.1]) (fun n rest s => cntS l ts t = rest.foldl (cSt l t) s ∧ s.1.length = l.length ∧ ∀ x ∈ rest, tE x = 0) (List.replicate l.length 0, 0) (by simp) ⟨rfl, by simp, z3⟩ ?_ ?_
      · rintro n x rest ⟨m, o⟩ K hx hr hn ⟨hg, hm, hok⟩ hK
        have hw : wr ((n : Int) + 1) = (n : Int) + 1 := wr_id (by omega) (by omega)
        rw [List.foldl_cons] at hg
        simp only at hm
        have hx0 := hok x (by simp)
        have g0 : ∀ s', s' = cSt l t (m, o) x → K [.int s'.2, .int ((n : Nat) + 1), ints s'.1] := fun s' hs => hK _ s' (by simp) ⟨by rw [hs]; exact hg, by rw [hs, cSt_len]; exact hm, fun y hy => hok y (by simp [hy])⟩
        clear hg hK hok
        have hat := tat_fn x t
        simp [hn, lst_at hx, encT, hw]
        refine ⟨_, hat, ?_⟩
        rcases tatV_cases x t with ⟨h1, h2⟩ | ⟨h1, h2⟩
        · rw [h2]
          obtain ⟨_, t1, t2⟩ := tatE_ok h1
          obtain ⟨n1, n2, n3⟩ := atN_ok hx0 t1 t2
          have hp := lplace_fn l (atN x t).p (atN x t).h ho n1 n2 n3
          have g1 : 0 ≤ plc l (atN x t).p (atN x t).h → K [.int o, .int ((n : Nat) + 1), ints (m.set (plc l (atN x t).p (atN x t).h).toNat (wr (m.getD (plc l (atN x t).p (atN x t).h).toNat 0 + 1)))] := fun q => g0 (m.set (plc l (atN x t).p (atN x t).h).toNat (wr (m.getD (plc l (atN x t).p (atN x t).h).toNat 0 + 1)), o) (by unfold cSt; rw [if_neg (by simp [h1]), if_pos q])
          have g2 : ¬ 0 ≤ plc l (atN x t).p (atN x t).h → K [.int (wr (o + 1)), .int ((n : Nat) + 1), ints m] := fun q => g0 (m, wr (o + 1)) (by unfold cSt; rw [if_neg (by simp [h1]), if_neg q])
          have hlt : plc l (atN x t).p (atN x t).h < l.length := plc_lt
          clear g0 h2 h1 t1 t2 n1 n2 n3
          generalize atN x t = a at *
          obtain ⟨nt, nx, ny, nh, nr, nb⟩ := a
          simp only [Nd.p] at hp g1 g2 hlt
          generalize plc l ⟨nx, ny⟩ nh = i at *
          simp [encN]
          refine ⟨_, hp, ?_⟩
          simp
          refine ⟨fun q => ?_, fun q => g2 (by omega)⟩
          obtain ⟨j, rfl⟩ : ∃ j : Nat, i = (j : Int) := ⟨i.toNat, by omega⟩
          have hjm : j < m.length := by omega
          have hmj : m[j]? = some (m.getD j 0) := by rw [List.getD_eq_getElem?_getD, List.getElem?_eq_getElem hjm]; rfl
          have g1' := g1 q
          simp only [Int.toNat_natCast] at g1'
          have hse : AV.setEl (ints m) (.lit (.int .i64 (j : Nat))) 0 [.int (wr (m.getD j 0 + 1))] = ints (m.set j (wr (m.getD j 0 + 1))) := lst_setEl hmj (by simp [encI])
          have hgi := lst_at (s := 1) (enc := encI) (k := .i64) (j := 0) hmj
          generalize m.getD j 0 = v at *
          simp [hgi, encI, hse, hjm]
          exact g1'
        · rw [h2]
          have := g0 (m, o) (by unfold cSt; rw [if_pos h1])
          simp [encN, nd0, h1]
          exact this
      · rintro ⟨m, o⟩ K ⟨hg, hm, _⟩
        simp only [List.foldl_nil] at hg
        rw [hg] at hV
        simp only at hm hV
        have heq := eqi_fn m m (by unfold maxLen; omega)
        rw [hV]
        simp
        refine ⟨_, heq, ?_⟩
        simp
  · rw [if_pos (by simp [z])] at hE
    rw [hV0 _ z hE]
    simp [z]
theorem loadCounts_all (xs : List AV) (h1 : xs.length = 3) (h2 : ∀ i, i < 3 → ArgOk Tryz.prog ([22, 23, 3].getD i 0) (xs.getD i default)) : Fn Tryz.prog 5 xs .sc (.bool true) := by
  obtain ⟨a, b, c, rfl⟩ := of3 h1
  obtain ⟨l, e1, _⟩ := arg_ses (h2 0 (by omega))
  obtain ⟨t, e2, _⟩ := arg_tbs (h2 1 (by omega))
  obtain ⟨n, e3, _⟩ := arg_intT (h2 2 (by omega))
  simp at e1 e2 e3
  subst e1 e2 e3
  exact counts_fn l t n
end Go.Proofs.YtcdbodnhimbddaaGreat
/- loads: the law of peaks. -/
namespace Go.Proofs.YtcdbodnhimbddaaGreat
open Go.RowKit
set_option linter.unusedVariables false
set_option linter.unusedSimpArgs false
set_option maxRecDepth 100000
/-! ### counts are not negative -/
theorem getD_set_or (a : List Int) (i j : Nat) (v : Int) : (a.set j v).getD i 0 = v ∨ (a.set j v).getD i 0 = a.getD i 0 := by
  rw [List.getD_eq_getElem?_getD, List.getD_eq_getElem?_getD, List.getElem?_set]
  split
  · split
    · left; rfl
    · right
      rename_i h1 h2
      subst h1
      rw [List.getElem?_eq_none (by omega)]
  · right; rfl
theorem cfold_nn (l : List Se) (t : Int) : ∀ (ts : List (List Nd)) (s : List Int × Int) (b : Nat), b + ts.length ≤ 24 → (∀ i, 0 ≤ s.1.getD i 0 ∧ s.1.getD i 0 ≤ b) → ∀ i, 0 ≤ (ts.foldl (cSt l t) s).1.getD i 0
  | [], s, b, _, h, i => (h i).1
  | x :: r, s, b, hb, h, i => by
    rw [List.foldl_cons]
    rw [List.length_cons] at hb
    refine cfold_nn l t r _ (b + 1) (by omega) ?_ i
    intro i
    have hi := h i
    unfold cSt
    split
    · omega
    · split
      · simp only
        generalize (plc l (atN x t).p (atN x t).h).toNat = j
        have hj := h j
        have hw : wr (s.1.getD j 0 + 1) = s.1.getD j 0 + 1 := wr_id (by omega) (by omega)
        rcases getD_set_or s.1 i j (wr (s.1.getD j 0 + 1)) with q | q
        · rw [q, hw]; omega
        · rw [q]; omega
      · simp only
        omega
theorem cntS_nn (l : List Se) (ts : List (List Nd)) (t : Int) (h : ts.length ≤ 24) (i : Nat) : 0 ≤ (cntS l ts t).1.getD i 0 := by
  refine cfold_nn l t ts _ 0 (by omega) ?_ i
  intro i
  simp only
  have : (List.replicate l.length (0 : Int)).getD i 0 = 0 := by
    rw [List.getD_eq_getElem?_getD, List.getElem?_replicate]
    split <;> rfl
  omega
/-! ### one sector's peak -/
structure Pk (f : Int) (c M A : Nat → Int) : Prop where
  m0 : M 0 = 0
  a0 : A 0 = f
  ms : ∀ n, M (n + 1) = if M n < c n then c n else M n
  aS : ∀ n : Nat, A (n + 1) = if M n < c n then f + n else A n
  nn : ∀ n, 0 ≤ c n
theorem Pk.step {f : Int} {c M A : Nat → Int} (h : Pk f c M A) (n : Nat) : M n ≤ M (n + 1) ∧ c n ≤ M (n + 1) := by
  rw [h.ms]; split <;> omega
theorem Pk.mono {f : Int} {c M A : Nat → Int} (h : Pk f c M A) (n : Nat) : ∀ k, M n ≤ M (n + k)
  | 0 => Int.le_refl _
  | k + 1 => by
    have := h.mono n k
    have := (h.step (n + k)).1
    rw [← Nat.add_assoc]; omega
theorem Pk.keep {f : Int} {c M A : Nat → Int} (h : Pk f c M A) (n : Nat) : ∀ k, M n = M (n + k) → A (n + k) = A n
  | 0, _ => rfl
  | k + 1, e => by
    rw [← Nat.add_assoc] at e ⊢
    have h1 := h.mono n k
    have h2 := h.step (n + k)
    rw [h.aS, if_neg (by omega)]
    exact h.keep n k (by omega)
theorem Pk.le {f : Int} {c M A : Nat → Int} (h : Pk f c M A) {n N : Nat} (hn : n < N) : c n ≤ M N := by
  have h1 := (h.step n).2
  have h2 := h.mono (n + 1) (N - (n + 1))
  rw [show n + 1 + (N - (n + 1)) = N by omega] at h2
  omega
theorem Pk.first {f : Int} {c M A : Nat → Int} (h : Pk f c M A) {n N : Nat} (hn : n < N) (e : c n = M N) (hm : ¬ (0 < n ∧ M n = M N)) : A N = f + n := by
  have h1 := h.mono n (N - n)
  rw [show n + (N - n) = N by omega] at h1
  by_cases q : M n = M N
  · obtain rfl : n = 0 := by omega
    have := h.keep 0 N (by rw [Nat.zero_add]; exact q)
    rw [Nat.zero_add] at this
    rw [this, h.a0]; omega
  · have hlt : M n < c n := by omega
    have e1 : M (n + 1) = c n := by rw [h.ms, if_pos hlt]
    have e2 : A (n + 1) = f + n := by rw [h.aS, if_pos hlt]
    have := h.keep (n + 1) (N - (n + 1)) (by rw [show n + 1 + (N - (n + 1)) = N by omega]; omega)
    rw [show n + 1 + (N - (n + 1)) = N by omega] at this
    rw [this, e2]
theorem Pk.met {f : Int} {c M A : Nat → Int} (h : Pk f c M A) {n N : Nat} (hn : n < N) : decide (0 < n + 1 ∧ M (n + 1) = M N) = (decide (0 < n ∧ M n = M N) || decide (c n = M N)) := by
  have h1 := h.le hn
  have h2 := h.mono n (N - n)
  rw [show n + (N - n) = N by omega] at h2
  have h3 := h.ms n
  have h4 := h.nn n
  have h5 := h.m0
  have key : (0 < n + 1 ∧ M (n + 1) = M N) ↔ ((0 < n ∧ M n = M N) ∨ c n = M N) := by
    rcases Nat.eq_zero_or_pos n with q | q
    · subst q
      rw [h3, h5]
      split <;> omega
    · rw [h3]
      split <;> omega
  rw [decide_eq_decide.2 key, Bool.decide_or]
theorem pk_of (l : List Se) (ts : List (List Nd)) (f : Int) (h : ts.length ≤ 24) {i : Nat} (hi : i < l.length) :
    Pk f (fun n => (cntS l ts (f + n)).1.getD i 0) (fun n => (pkS l ts f n).1.getD i 0) (fun n => (pkS l ts f n).2.getD i 0) where
  m0 := by
    simp only [pkS]
    rw [List.getD_eq_getElem?_getD, List.getElem?_replicate, if_pos hi]; rfl
  a0 := by
    simp only [pkS]
    rw [List.getD_eq_getElem?_getD, List.getElem?_replicate, if_pos hi]; rfl
  ms n := by
    simp only [pkS]
    exact pkM_at (by rw [(pkS_len l ts f n).1]; exact hi)
  aS n := by
    simp only [pkS]
    exact pkA_at (by rw [(pkS_len l ts f n).2]; exact hi)
  nn n := cntS_nn l ts _ h i
/-! ### lists of bools -/
def encBl (b : Bool) : List AV := [.bool b]
abbrev bools (l : List Bool) : AV := lst 1 encBl l
def bl (L : Nat) (g : Nat → Bool) : List Bool := (List.range L).map g
@[simp] theorem bl_len (L : Nat) (g : Nat → Bool) : (bl L g).length = L := by simp [bl]
theorem bl_get {L j : Nat} (g : Nat → Bool) (h : j < L) : (bl L g)[j]? = some (g j) := by simp [bl, h]
theorem bl_congr {L : Nat} {g k : Nat → Bool} (h : ∀ i, i < L → g i = k i) : bl L g = bl L k := List.map_congr_left fun i hi => h i (List.mem_range.1 hi)
theorem bl_set {L j : Nat} (g : Nat → Bool) (v : Bool) : (bl L g).set j v = bl L fun i => if i = j then v else g i := by
  apply List.ext_getElem?
  intro i
  rw [List.getElem?_set]
  simp only [bl_len]
  by_cases hi : i < L
  · rw [bl_get g hi, bl_get _ hi]
    by_cases q : j = i
    · subst q; rw [if_pos rfl, if_pos hi, if_pos rfl]
    · rw [if_neg q, if_neg (fun e => q e.symm)]
  · rw [List.getElem?_eq_none (l := bl L g) (by simp; omega), List.getElem?_eq_none (by simp; omega)]
    split
    · rw [if_neg (by omega)]
    · rfl
theorem bools_rep (n : Nat) : AV.rep 1 (.lit (.int .i64 (n : Nat))) [.lit (.bool false)] = bools (List.replicate n false) := by
  simp [AV.rep, lst, encBl]
theorem cob_fn (l : List Bool) (hl : l.length ≤ 1000) (h : ∀ x ∈ l, x = true) : Fn Tryz.prog 14 [bools l, .bool false] .sc (.bool false) := by
  refine fn_run mixed 3 (Γ := LoF.Γ) (ann := LoF.ann) Tryz.func14 rfl Tryz.call14 ((LoF.cob_form _ _ _).mpr ?_)
  have e1 : Ent Tryz.prog 32 := Tryz.call32
  simp [e1]
  refine loop_list (σ := Unit) l (fun n _ => [.int (n : Nat)]) (fun n rest _ => True) () rfl trivial ?_ ?_
  · rintro n x rest _ K hx hr hn hg hK
    have hw : wr ((n : Int) + 1) = (n : Int) + 1 := wr_id (by omega) (by omega)
    have hx1 := h x (List.mem_of_getElem? hx)
    subst hx1
    have g := hK [.int ((n : Nat) + 1)] () (by simp) trivial
    simp [hn, lst_at hx, encBl, hw]
    exact g
  · rintro _ K _
    simp
theorem peaksL_fn (l : List Se) (ts : List (List Nd)) (s : Sn) : Fn Tryz.prog 4 [ses l, tbs ts, sn s] .sc (.bool true) := by
  have e := LoF.lpeaks_form (ses l) (tbs ts) (sn s) (.bool true)
  have k := fun h => fn_run mixed 3 (Γ := LoF.Γ) (ann := LoF.ann) Tryz.func4 rfl Tryz.call4 (e.mpr h)
  refine k ?_
  clear k e
  have hpk := peaks_fn l ts s
  have hV : pkV l ts s = if pkE l ts s = 0 then .tup [ints (pkS l ts s.f (pkN s)).1, ints (pkS l ts s.f (pkN s)).2, .int 0] else .tup [ints [], ints [], .int (pkE l ts s)] := rfl
  have hE : pkE l ts s = if lE l ts ≠ 0 then lE l ts else snE s := rfl
  generalize pkV l ts s = V at hV hpk
  generalize pkE l ts s = E at hV hE
  have hV0 : ∀ e, e ≠ 0 → E = e → V = .tup [.sl 1 [], .sl 1 [], .int e] := fun e h1 h2 => by rw [hV, h2, if_neg h1]; rfl
  have hsp := sperr_fn s
  have hw0 : wr 0 = 0 := by kernel_rfl
  have hN : (pkN s : Int) = max (s.t - s.f) 0 := by unfold pkN; omega
  have hok := snE_ok (s := s)
  generalize pkN s = N at *
  obtain ⟨f, u⟩ := s
  simp only at hN hok hV
  refine ⟨by simp [encSn], _, lfact_fn, by simp, by simp, by simp, _, hpk, _, lerr_fn l ts, ?_⟩
  simp [encSn]
  refine ⟨fun z => ⟨_, hsp, ?_⟩, fun z => ?_⟩
  · rw [if_neg (by simp [z])] at hE
    simp
    refine ⟨fun y => ?_, fun y => ?_⟩
    · rw [hV0 _ y hE]
      simp [hw0]
    · obtain ⟨y1, y2, y3, y4⟩ := hok y
      rw [y] at hE
      rw [hE, if_pos rfl] at hV
      obtain ⟨z1, z2, z3⟩ := lE_ok z
      have ho := chkS_ok z1
      have hl := ho.1
      obtain ⟨p1, p2⟩ := pkS_len l ts f N
      have hPk := fun i (hi : i < l.length) => pk_of l ts f z2 hi
      rw [hV]
      simp [p1, p2]
      intro hle
      refine ⟨?_, rfl, ?_⟩
      · simp [AV.mkOk]
        omega
      rw [bools_rep]
      refine loop_nat (σ := Unit) N (fun n _ => [.int (f + n), bools (bl l.length fun i => decide (0 < n ∧ (pkS l ts f n).1.getD i 0 = (pkS l ts f N).1.getD i 0))]) (fun n _ => True) () (by simp [bl, List.map_const']) trivial ?_ ?_
      · rintro n _ K hn _ hK
        have hw : wr (f + (n : Int) + 1) = f + (n : Int) + 1 := wr_id (by omega) (by omega)
        have hlt : f + (n : Int) < u := by omega
        have h200 : ¬ 200000 < f + (n : Int) := by omega
        have g := hK [.int (f + ((n + 1 : Nat) : Int)), bools (bl l.length fun i => decide (0 < n + 1 ∧ (pkS l ts f (n + 1)).1.getD i 0 = (pkS l ts f N).1.getD i 0))] () rfl trivial
        rw [show f + ((n + 1 : Nat) : Int) = f + n + 1 by omega] at g
        clear hK
        have hcc := cCount_fn l ts (f + n)
        have hcE : cCE l ts (f + n) = 0 := by unfold cCE; rw [if_neg (by simp [z]), if_neg (by omega)]
        unfold cCV at hcc
        rw [if_pos hcE] at hcc
        have hcl := cntS_len l ts (f + n)
        simp [hlt, h200]
        refine ⟨_, hcc, ?_⟩
        simp [hcl, h200]
        refine loop_nat (σ := Unit) l.length (fun j _ => [.int (j : Nat), bools (bl l.length fun i => if i < j then decide (0 < n + 1 ∧ (pkS l ts f (n + 1)).1.getD i 0 = (pkS l ts f N).1.getD i 0) else decide (0 < n ∧ (pkS l ts f n).1.getD i 0 = (pkS l ts f N).1.getD i 0))]) (fun j _ => True) () (by simp) trivial ?_ ?_
        · rintro j _ K2 hj _ hK2
          have hwj : wr ((j : Int) + 1) = (j : Int) + 1 := wr_id (by omega) (by omega)
          have p := hPk j hj
          have hle := p.le hn
          have hfi := p.first hn
          have hmt := p.met hn
          have g2 := fun v (hv : v = decide (0 < n + 1 ∧ (pkS l ts f (n + 1)).1.getD j 0 = (pkS l ts f N).1.getD j 0)) => hK2 [.int ((j : Nat) + 1), bools ((bl l.length fun i => if i < j then decide (0 < n + 1 ∧ (pkS l ts f (n + 1)).1.getD i 0 = (pkS l ts f N).1.getD i 0) else decide (0 < n ∧ (pkS l ts f n).1.getD i 0 = (pkS l ts f N).1.getD i 0)).set j v)] () (by
            rw [bl_set]
            congr 3
            apply bl_congr
            intro i hi
            by_cases q : i = j
            · subst q; rw [if_pos rfl, if_pos (by omega)]; exact hv
            · rw [if_neg q]
              by_cases q2 : i < j
              · rw [if_pos q2, if_pos (by omega)]
              · rw [if_neg q2, if_neg (by omega)]) trivial
          clear hK2 g
          have hbj := bl_get (L := l.length) (fun i => if i < j then decide (0 < n + 1 ∧ (pkS l ts f (n + 1)).1.getD i 0 = (pkS l ts f N).1.getD i 0) else decide (0 < n ∧ (pkS l ts f n).1.getD i 0 = (pkS l ts f N).1.getD i 0)) hj
          rw [if_neg (Nat.lt_irrefl _)] at hbj
          rw [hmt] at g2
          have hbl := bl_len l.length (fun i => if i < j then decide (0 < n + 1 ∧ (pkS l ts f (n + 1)).1.getD i 0 = (pkS l ts f N).1.getD i 0) else decide (0 < n ∧ (pkS l ts f n).1.getD i 0 = (pkS l ts f N).1.getD i 0))
          generalize (bl l.length fun i => if i < j then decide (0 < n + 1 ∧ (pkS l ts f (n + 1)).1.getD i 0 = (pkS l ts f N).1.getD i 0) else decide (0 < n ∧ (pkS l ts f n).1.getD i 0 = (pkS l ts f N).1.getD i 0)) = B at *
          have hcj := ints_at (m := (cntS l ts (f + n)).1) (j := j) (by omega)
          have hmj := ints_at (m := (pkS l ts f N).1) (j := j) (by omega)
          have haj := ints_at (m := (pkS l ts f N).2) (j := j) (by omega)
          have hba := lst_at (s := 1) (enc := encBl) (k := .i64) (j := 0) hbj
          have hse : ∀ v : Bool, AV.setEl (bools B) (.lit (.int .i64 (j : Nat))) 0 [.bool v] = bools (B.set j v) := fun v => lst_setEl hbj (by simp [encBl])
          generalize (cntS l ts (f + n)).1.getD j 0 = cv at *
          generalize (pkS l ts f N).1.getD j 0 = mv at *
          generalize (pkS l ts f N).2.getD j 0 = av at *
          obtain ⟨b, hb⟩ : ∃ b, b = decide (0 < n ∧ (pkS l ts f n).1.getD j 0 = mv) := ⟨_, rfl⟩
          have hfi2 : cv = mv → b = false → av = f + n := fun q1 q2 => hfi q1 (by rw [q2] at hb; simpa using hb.symm)
          rw [← hb] at hba g2
          clear hb hfi hmt hbj
          have hle2 : ¬ mv < cv := by omega
          have hjl : j < l.length := hj
          simp [hjl, hcl, p1, p2, hcj, hmj, haj, hwj, hle2, hbl, hba, encBl]
          cases b
          · simp [hse]
            refine ⟨fun q => ?_, fun q => ?_⟩
            · have q2 := hfi2 q rfl
              have g3 := g2 true (by simp [q])
              have q3 : (cv == mv) = true := by simp [q]
              simp [q2]
              exact ⟨q, by rw [q3]; exact g3⟩
            · have g3 := g2 false (by simp [q])
              have q3 : (cv == mv) = false := by simp [q]
              exact ⟨q, by rw [q3]; exact g3⟩
          · have g3 := g2 true (by simp)
            simp [hse]
            exact ⟨fun q => ⟨q, g3⟩, fun q => ⟨q, g3⟩⟩
        · rintro _ K2 _
          have hbe := bl_congr (L := l.length) (g := fun i => if i < l.length then decide (0 < n + 1 ∧ (pkS l ts f (n + 1)).1.getD i 0 = (pkS l ts f N).1.getD i 0) else decide (0 < n ∧ (pkS l ts f n).1.getD i 0 = (pkS l ts f N).1.getD i 0)) (k := fun i => decide (0 < n + 1 ∧ (pkS l ts f (n + 1)).1.getD i 0 = (pkS l ts f N).1.getD i 0)) (fun i hi => by simp [hi])
          rw [hbe]
          generalize (bl l.length fun i => decide (0 < n + 1 ∧ (pkS l ts f (n + 1)).1.getD i 0 = (pkS l ts f N).1.getD i 0)) = B at *
          simp [hw]
          exact g
      · rintro _ K _
        have hge : ¬ f + (N : Int) < u := by omega
        have hco := cob_fn (bl l.length fun i => decide (0 < N ∧ (pkS l ts f N).1.getD i 0 = (pkS l ts f N).1.getD i 0)) (by simp; omega) (fun x hx => by
          unfold bl at hx
          obtain ⟨i, _, rfl⟩ := List.mem_map.1 hx
          simp
          omega)
        generalize (bl l.length fun i => decide (0 < N ∧ (pkS l ts f N).1.getD i 0 = (pkS l ts f N).1.getD i 0)) = B at *
        simp [hge]
        refine ⟨_, hco, ?_⟩
        simp
  · rw [if_pos (by simp [z])] at hE
    rw [hV0 _ z hE]
    simp [z, hw0]
theorem loadPeaks_all (xs : List AV) (h1 : xs.length = 3) (h2 : ∀ i, i < 3 → ArgOk Tryz.prog ([22, 23, 26].getD i 0) (xs.getD i default)) : Fn Tryz.prog 4 xs .sc (.bool true) := by
  obtain ⟨a, b, c, rfl⟩ := of3 h1
  obtain ⟨l, e1, _⟩ := arg_ses (h2 0 (by omega))
  obtain ⟨t, e2, _⟩ := arg_tbs (h2 1 (by omega))
  obtain ⟨n, e3⟩ := arg_sn (h2 2 (by omega))
  simp at e1 e2 e3
  subst e1 e2 e3
  exact peaksL_fn l t n
end Go.Proofs.YtcdbodnhimbddaaGreat
