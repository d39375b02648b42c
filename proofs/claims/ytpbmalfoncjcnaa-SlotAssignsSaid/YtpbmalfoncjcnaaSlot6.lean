/- The laws of slots. -/
import Derived.Test.YtpbmalfoncjcnaaSlot5
import Derived.Test.YtpbmalfoncjcnaaArgs
import Derived.Test.YtpbmalfoncjcnaaSized
namespace Go.Proofs.Ytpbmalfoncjcnaa
open Go.RowKit
set_option linter.unusedVariables false
set_option linter.unusedSimpArgs false
set_option maxRecDepth 100000
def bA1 : ByteArray := ⟨#[65, 49]⟩
def bB2 : ByteArray := ⟨#[66, 50]⟩
def bRw : ByteArray := ⟨#[82, 87, 89]⟩
def fL : List Dm := [⟨bB2, 4⟩, ⟨bA1, 3⟩]
def fC : List Cp := [⟨0, 10, 1⟩, ⟨10, 20, 1⟩]
def fS : List So := [⟨bA1, bRw, 3⟩, ⟨bB2, bRw, 10⟩]
theorem sq1 : asgV bRw fL fC = .tup [sos fS, .int 0] := by kernel_rfl
theorem sq2 : dlyV fL fS = .tup [ints [6, 0], .int 0] := by kernel_rfl
theorem sq3 : relV bRw bA1 fL fC = .tup [sos [⟨bB2, bRw, 4⟩], .int 0] := by kernel_rfl
theorem sq4 : swpV fL fS bA1 bB2 = .tup [.sl 3 [], .int 12] := by kernel_rfl
theorem sq5 : demE (fL ++ fL) = 7 := by kernel_rfl
theorem sq6 : isName bA1 = true := by kernel_rfl
theorem sfact_fn : Fn Try.prog 8 [] .sc (.bool true) := by
  have e := SlotG.fact_form (.bool true)
  have k := fun h => fn_run mixed 3 (Γ := SlotG.Γ) (ann := SlotG.ann) Try.func8 rfl Try.call8 (e.mpr h)
  refine k ?_
  clear k e
  have e1 : Ent Try.prog 39 := Try.call39
  have e2 : Ent Try.prog 12 := Try.call12
  have h1 := assign_fn bRw fL fC
  rw [sq1] at h1
  have h2 := delays_fn fL fS
  rw [sq2] at h2
  have h3 := release_fn bRw bA1 fL fC
  rw [sq3] at h3
  have h4 := swap_fn fL fS bA1 bB2
  rw [sq4] at h4
  have h5 := eqs_fn fS fS (by simp [maxLen, fS])
  rw [decide_eq_true rfl] at h5
  have h6 := eqi_fn [6, 0] [6, 0] (by simp [maxLen])
  rw [decide_eq_true rfl] at h6
  have h7 := eqs_fn [⟨bB2, bRw, 4⟩] [⟨bB2, bRw, 4⟩] (by simp [maxLen])
  rw [decide_eq_true rfl] at h7
  have h8 := name_fn bA1
  rw [sq6] at h8
  have h9 := scheck_fn (fL ++ fL)
  rw [sq5] at h9
  refine ⟨e1, fun _ => ⟨_, h1, _, h2, e1, fun _ => ⟨_, h3, _, h4, ?_⟩⟩⟩
  simp
  refine ⟨_, h5, ?_⟩
  simp
  refine ⟨_, h6, ?_⟩
  simp
  refine ⟨_, h7, ?_⟩
  simp
  refine ⟨e2, _, h8, ?_⟩
  simp
  refine ⟨by simp [AV.room, AV.els], _, h9, ?_⟩
  simp
theorem asg_len {p : ByteArray} {c : List Cp} : ∀ {l : List Dm} {o o' : List So}, asg p c o l = some o' → o'.length = o.length + l.length
  | [], o, o', h => by rw [asg] at h; injection h with h; subst h; rfl
  | d :: r, o, o', h => by
    rw [asg] at h
    split at h
    · cases h
    · rw [asg_len h]; simp; omega
theorem asgL_len (p : ByteArray) (l : List Dm) (c : List Cp) : (asgL p l c).length ≤ 24 := by
  unfold asgL
  split
  · rename_i h
    obtain ⟨_, hd, _⟩ := sltE_ok (asgE_slt h)
    have g := (goodM hd).len
    cases hR : asgR p l c with
    | none => simp
    | some o =>
      have := asg_len hR
      rw [srtB_len] at this
      simp at this
      simp; omega
  · simp
theorem dlyG_len {s : List So} : ∀ {l : List Dm} {o : List Int}, (dlyG s l o).2.length ≤ o.length + l.length
  | [], o => by rw [dlyG]; simp
  | d :: r, o => by
    rw [dlyG]
    split
    · simp
    · split
      · simp
      · have := @dlyG_len s r (o ++ [(s.getD (sidx s d.c).toNat default).t - d.t])
        simp at this ⊢; omega
theorem dly_len2 (l : List Dm) (s : List So) : (dly l s).2.length ≤ 24 := by
  unfold dly
  split
  · simp
  · rename_i h
    split
    · simp
    · have := @dlyG_len s l []
      have g := (goodM (l := l) (by simpa using h)).len
      simp at this; omega
theorem nil_eqs : Fn Try.prog 16 [.sl 3 [], .sl 3 []] .sc (.bool true) := by
  have := eqs_fn [] [] (by simp)
  simpa using this
theorem tassigns_fn (p : ByteArray) (l : List Dm) (c : List Cp) : Fn Try.prog 3 [.string p, dms l, cps c] .sc (.bool true) := by
  have e := SlotG.assigns_form (.string p) (dms l) (cps c) (.bool true)
  have k := fun h => fn_run mixed 3 (Γ := SlotG.Γ) (ann := SlotG.ann) Try.func3 rfl Try.call3 (e.mpr h)
  refine k ?_
  clear k e
  have e2 : Ent Try.prog 12 := Try.call12
  refine ⟨_, sfact_fn, ?_⟩
  simp
  refine ⟨_, assign_fn p l c, _, scheck_fn l, _, derr_fn l, ?_⟩
  simp
  refine ⟨e2, _, name_fn p, _, isname_fn p, ?_⟩
  simp
  refine ⟨_, serr_fn p l c, ?_⟩
  simp
  refine ⟨fun h => ?_, fun h => ?_⟩
  · obtain ⟨hp, hd, hc⟩ := sltE_ok h
    refine ⟨_, slots_fn p (goodM hd) (goodC hc), ?_⟩
    rw [slV_asg h]
    have hq := eqs_fn (asgL p l c) (asgL p l c) (by have := asgL_len p l c; unfold maxLen; omega)
    rw [decide_eq_true rfl] at hq
    rw [← slV_asg h]
    simp [asgV]
    exact hq
  · rw [asgV_slt h]
    simp [h]
    exact nil_eqs
theorem rst_good {l : List Dm} (h : demE l = 0) (c : ByteArray) : demE (rst l c) = 0 := by
  have key : ∀ (l seen : List Dm) (seen' : List Dm), dmE seen l = 0 → (∀ x ∈ seen', x ∈ seen) → dmE seen' (l.filter (kpM c)) = 0 := by
    intro l
    induction l with
    | nil => intro _ _ _ _; rfl
    | cons x r ih =>
      intro seen seen' h hs
      rw [dmE] at h
      split at h
      · cases h
      · rename_i h1
        split at h
        · cases h
        · rename_i h2
          split at h
          · cases h
          · rename_i h3
            rw [List.filter_cons]
            split
            · rw [dmE, if_neg h1, if_neg h2, if_neg]
              · refine ih _ _ h fun y hy => ?_
                rcases List.mem_append.1 hy with q | q
                · exact List.mem_append_left _ (hs y q)
                · exact List.mem_append_right _ q
              · intro q
                obtain ⟨y, hy, e⟩ := List.any_eq_true.1 q
                exact h3 (List.any_eq_true.2 ⟨y, hs y hy, e⟩)
            · exact ih _ _ h fun y hy => List.mem_append_left _ (hs y hy)
  have hl := (goodM h).len
  unfold demE at h ⊢
  rw [if_neg (by omega)] at h
  have hle : (rst l c).length ≤ l.length := List.length_filter_le _ _
  rw [if_neg (by omega)]
  exact key l [] [] h fun _ h => h
theorem dms_snoc (o : List Dm) (x : Dm) : AV.app 2 (dms o) (.sl 2 [[.lit (.string x.c), .lit (.int .i64 x.t)]]) = dms (o ++ [x]) := by
  simp [lst, AV.app, AV.els, encM]
/-- The loop that takes those that are not called so. -/
theorem rst_loop (c : ByteArray) (l : List Dm) (hbig : l.length * 24 ≤ 140737488351232) {body : List AV → (List AV → Prop) → Prop} {i : Nat}
    (hstep : ∀ (n : Nat) (x : Dm) (o : List Dm) (K : List AV → Prop), l[n]? = some x → n < l.length → IntKind.i64.wrap ((n : Int) + 1) = (n : Int) + 1 → (∀ q : List (List AV), q.length = 1 → AV.room (dms o) (.sl 2 q) 24) → (x.c ≠ c → K [.int ((n : Nat) + 1), dms (o ++ [x])]) → (x.c = c → K [.int ((n : Nat) + 1), dms o]) → body [.int (n : Nat), dms o] K)
    (hend : ∀ K, body [.int (l.length : Nat), dms (rst l c)] K) : fLoop i [.int 0, .sl 2 []] body := by
  refine loop_list (σ := List Dm) l (fun n o => [.int (n : Nat), dms o]) (fun n rest o => rst l c = o ++ rest.filter (kpM c) ∧ o.length ≤ n) [] (by simp) ⟨by simp [rst], by simp⟩ ?_ ?_
  · rintro n x rest o K hx hr hn ⟨hg, ho⟩ hK
    refine hstep n x o K hx hn (wrap64 (by omega) (by omega)) (fun q hq => by unfold AV.room; rw [lst_els]; simp [AV.els, hq]; omega) (fun q => ?_) (fun q => ?_)
    · exact hK _ (o ++ [x]) (by simp) ⟨by rw [hg, List.filter_cons]; simp [kpM, q], by simp; omega⟩
    · exact hK _ o (by simp) ⟨by rw [hg, List.filter_cons]; simp [kpM, q], by omega⟩
  · rintro o K ⟨hg, _⟩
    simp at hg
    rw [← hg]
    exact hend K
theorem treleases_fn (p c : ByteArray) (l : List Dm) (k : List Cp) (hbig : l.length * 24 ≤ 140737488351232) : Fn Try.prog 5 [.string p, .string c, dms l, cps k] .sc (.bool true) := by
  have e := SlotG.releases_form (.string p) (.string c) (dms l) (cps k) (.bool true)
  have kk := fun h => fn_run mixed 3 (Γ := SlotG.Γ) (ann := SlotG.ann) Try.func5 rfl Try.call5 (e.mpr h)
  refine kk ?_
  clear kk e
  refine ⟨_, sfact_fn, ?_⟩
  simp
  refine ⟨_, release_fn p c l k, _, serr_fn p l k, ?_⟩
  simp
  refine ⟨fun h => ?_, fun h => ?_⟩
  · obtain ⟨hp, hd, hc⟩ := sltE_ok h
    have hrd := rst_good hd c
    have hrs : sltE p (rst l c) k = 0 := by unfold sltE; simp [hp, hrd, hc]
    refine ⟨_, slots_fn p (goodM hd) (goodC hc), ?_⟩
    refine rst_loop c l hbig ?_ ?_
    · intro n x o K hx hn hw hr h1 h2
      have hsn := dms_snoc o x
      simp [hn, lst_atAgg hx, encM, hw, hsn, hr]
      exact ⟨h1, h2⟩
    · intro K
      rw [← slV_asg h]
      have hle : (rst l c).length ≤ l.length := List.length_filter_le _ _
      simp [asgV]
      refine ⟨fun h0 => ⟨h0, ?_, ?_⟩, fun h0 => ?_⟩
      · intro h1
        rw [relV_none h0 (by omega)]
        simp
      · intro h1
        refine ⟨h0, _, slots_fn p (goodM hrd) (goodC hc), ?_⟩
        rw [relV_ok h0 (by omega), ← slV_asg hrs]
        have hq := eqs_fn (asgL p (rst l c) k) (asgL p (rst l c) k) (by have := asgL_len p (rst l c) k; unfold maxLen; omega)
        rw [decide_eq_true rfl] at hq
        simp [asgV]
        exact hq
      · rw [relV_asg h0]
        simp [h0]
  · refine rst_loop c l hbig ?_ ?_
    · intro n x o K hx hn hw hr h1 h2
      have hsn := dms_snoc o x
      simp [hn, lst_atAgg hx, encM, hw, hsn, hr]
      exact ⟨h1, h2⟩
    · intro K
      have h0 : asgE p l k = sltE p l k := by unfold asgE; rw [if_pos h]
      rw [relV_asg (by rw [h0]; exact h), h0]
      simp [h]
theorem tdelays_fn (l : List Dm) (s : List So) (a b : ByteArray) (hs : s.length ≤ maxLen) : Fn Try.prog 4 [dms l, sos s, .string a, .string b] .sc (.bool true) := by
  have e := SlotG.ldelays_form (dms l) (sos s) (.string a) (.string b) (.bool true)
  have kk := fun h => fn_run mixed 3 (Γ := SlotG.Γ) (ann := SlotG.ann) Try.func4 rfl Try.call4 (e.mpr h)
  refine kk ?_
  clear kk e
  have e1 : Ent Try.prog 21 := Try.call21
  have e2 : Ent Try.prog 22 := Try.call22
  have e3 : Ent Try.prog 23 := Try.call23
  have e4 : Ent Try.prog 24 := Try.call24
  refine ⟨by simp, by simp, _, sfact_fn, ?_⟩
  simp
  refine ⟨_, delays_fn l s, _, swap_fn l s a b, _, ldelays_fn l s hs, ?_⟩
  simp [dlyV]
  have hq := eqi_fn (dly l s).2 (dly l s).2 (by have := dly_len2 l s; unfold maxLen; omega)
  rw [decide_eq_true rfl] at hq
  refine ⟨_, hq, ?_⟩
  simp [e1, e2, e3, e4]
  refine ⟨fun h => ?_, fun h => ?_⟩
  · rw [swpV_err (e := (dly l s).1) (by unfold swpE; rw [if_pos h]) h]
    simp
  · obtain ⟨hl, hd⟩ := dly_len h
    have g8 : (sidx s a < 0 ∨ sidx s b < 0) → swpV l s a b = .tup [.sl 3 [], .int 8] := fun q => swpV_err (by unfold swpE; rw [if_neg (by simp [h]), if_pos q]) (by omega)
    refine loop_list (σ := Unit) s (fun n _ => [.int (n : Nat)]) (fun k rest _ => sidx s a = idxN (hasC a) k rest) () rfl rfl ?_ ?_
    · rintro i x rest _ K hx hr hi hg hK
      have hw2 : IntKind.i64.wrap ((i : Int) + 1) = (i : Int) + 1 := wrap64 (by omega) (by omega)
      rw [idxN] at hg
      have gN : x.c ≠ a → K [.int ((i : Nat) + 1)] := fun q => hK _ () (by simp) (by rw [hg, if_neg (by simpa [hasC] using q)])
      have gY : x.c = a → sidx s a = (i : Int) := fun q => by rw [hg, if_pos (by simpa [hasC] using q)]
      clear hg hK
      simp [hi, lst_atAgg hx, encO, hw2]
      refine ⟨fun hxa => ?_, gN⟩
      have hia := gY hxa
      refine loop_list (σ := Unit) s (fun n _ => [.int (n : Nat)]) (fun k rest _ => sidx s b = idxN (hasC b) k rest) () rfl rfl ?_ ?_
      · rintro j y rest2 _ K2 hy hr2 hj hg2 hK2
        have hw3 : IntKind.i64.wrap ((j : Int) + 1) = (j : Int) + 1 := wrap64 (by omega) (by omega)
        rw [idxN] at hg2
        have kN : y.c ≠ b → K2 [.int ((j : Nat) + 1)] := fun q => hK2 _ () (by simp) (by rw [hg2, if_neg (by simpa [hasC] using q)])
        have kY : y.c = b → sidx s b = (j : Int) := fun q => by rw [hg2, if_pos (by simpa [hasC] using q)]
        clear hg2 hK2
        have hatx : AV.at (sos s) (.lit (.int .i64 (i : Nat))) 2 = .int x.t := by rw [lst_at hx]; rfl
        have haty : AV.at (sos s) (.lit (.int .i64 (j : Nat))) 2 = .int y.t := by rw [lst_at hy]; rfl
        simp [hj, lst_atAgg hy, encO, hw3]
        refine ⟨fun hyb => ?_, kN⟩
        have hjb := kY hyb
        have hil := (List.getElem?_eq_some_iff.1 hx).1
        have hjl := (List.getElem?_eq_some_iff.1 hy).1
        refine ⟨fun q => absurd q (by omega), fun q => absurd q (by omega), fun q => ?_, ?_⟩
        · subst q; simp at hil
        · have hroom : AV.room (.sl 3 []) (sos s) 40 := by unfold AV.room; rw [lst_els]; simp [AV.els]; omega
          have hsw := swap_set hx hy
          have hsw1 : AV.setEl (sos s) (.lit (.int .i64 (i : Nat))) 2 [.lit (.int .i64 y.t)] = sos (s.set i ⟨x.c, x.p, y.t⟩) := lst_setEl (x := x) (x' := ⟨x.c, x.p, y.t⟩) hx (by simp [encO])
          have hd := ldelays_fn l (swp s i j) (by unfold swp; simpa using hs)
          have hE : swpE l s a b = if (dly l (swp s i j)).1 ≠ 0 then 12 else 0 := by unfold swpE; rw [if_neg (by simp [h]), if_neg (by omega), hia, hjb]; rfl
          simp only [app_sos, hatx, haty, hsw]
          rw [hsw1]
          simp [hil, hjl, hroom]
          refine ⟨_, hd, ?_⟩
          simp [dlyV]
          refine ⟨fun q => ?_, fun q => ?_⟩
          · rw [swpV_err (e := 12) (by rw [hE, if_pos q]) (by omega)]
            simp
          · rw [swpV_ok (by rw [hE, if_neg (by simp [q])]), hia, hjb]
            have hq := eqs_fn (swp s i j) (swp s i j) (by unfold swp; simpa using hs)
            rw [decide_eq_true rfl] at hq
            simp
            exact hq
      · rintro _ K2 hg2
        have hb8 := g8 (.inr (by rw [hg2, idxN]; omega))
        simp [hb8, show ¬ (i : Int) < 0 by omega]
    · rintro _ K hg
      have ha8 := g8 (.inl (by rw [hg, idxN]; omega))
      simp [ha8]
      refine loop_list (σ := Unit) s (fun n _ => [.int (n : Nat)]) (fun k rest _ => True) () rfl trivial ?_ ?_
      · rintro j y rest2 _ K2 hy hr2 hj _ hK2
        have hw3 : IntKind.i64.wrap ((j : Int) + 1) = (j : Int) + 1 := wrap64 (by omega) (by omega)
        have kN : K2 [.int ((j : Nat) + 1)] := hK2 _ () (by simp) trivial
        simp [hj, lst_atAgg hy, encO, hw3]
        intro _
        exact kN
      · rintro _ K2 _
        simp
theorem arg_intT {x : AV} (h : ArgOk Try.prog 3 x) : ∃ n, x = .int n ∧ I64 n := c_int (by kernel_rfl) (arg_cell (by kernel_rfl) h)
theorem arg_strT {x : AV} (h : ArgOk Try.prog 9 x) : ∃ s : ByteArray, x = .string s ∧ s.size ≤ maxLen := c_str (by kernel_rfl) (arg_cell (by kernel_rfl) h)
theorem arg_dms {x : AV} (h : ArgOk Try.prog 22 x) : ∃ l, x = dms l ∧ l.length ≤ maxLen := by
  obtain ⟨l, e, h1, _⟩ := c_lst (P := Try.prog) (encA := encM) (Q := fun _ => True) (tys := [9, 3]) (s := 2) (e := 47) (by kernel_rfl) (by kernel_rfl) (by kernel_rfl) (fun y hy hc => by
    obtain ⟨a, b, rfl⟩ := lst2 hy
    obtain ⟨s1, e1, _⟩ := c_str (by kernel_rfl) (hc 0 9 rfl)
    obtain ⟨s2, e2, _⟩ := c_int (by kernel_rfl) (hc 1 3 rfl)
    simp at e1 e2
    exact ⟨⟨s1, s2⟩, by rw [e1, e2]; rfl, trivial⟩) (arg_cell (by kernel_rfl) h)
  exact ⟨l, e, h1⟩
theorem arg_cps {x : AV} (h : ArgOk Try.prog 23 x) : ∃ l, x = cps l ∧ l.length ≤ maxLen := by
  obtain ⟨l, e, h1, _⟩ := c_lst (P := Try.prog) (encA := encC) (Q := fun _ => True) (tys := [3, 3, 3]) (s := 3) (e := 80) (by kernel_rfl) (by kernel_rfl) (by kernel_rfl) (fun y hy hc => by
    obtain ⟨a, b, c, rfl⟩ := lst3 hy
    obtain ⟨s1, e1, _⟩ := c_int (by kernel_rfl) (hc 0 3 rfl)
    obtain ⟨s2, e2, _⟩ := c_int (by kernel_rfl) (hc 1 3 rfl)
    obtain ⟨s3, e3, _⟩ := c_int (by kernel_rfl) (hc 2 3 rfl)
    simp at e1 e2 e3
    exact ⟨⟨s1, s2, s3⟩, by rw [e1, e2, e3]; rfl, trivial⟩) (arg_cell (by kernel_rfl) h)
  exact ⟨l, e, h1⟩
theorem arg_sos {x : AV} (h : ArgOk Try.prog 25 x) : ∃ l, x = sos l ∧ l.length ≤ maxLen := by
  obtain ⟨l, e, h1, _⟩ := c_lst (P := Try.prog) (encA := encO) (Q := fun _ => True) (tys := [9, 9, 3]) (s := 3) (e := 34) (by kernel_rfl) (by kernel_rfl) (by kernel_rfl) (fun y hy hc => by
    obtain ⟨a, b, c, rfl⟩ := lst3 hy
    obtain ⟨s1, e1, _⟩ := c_str (by kernel_rfl) (hc 0 9 rfl)
    obtain ⟨s2, e2, _⟩ := c_str (by kernel_rfl) (hc 1 9 rfl)
    obtain ⟨s3, e3, _⟩ := c_int (by kernel_rfl) (hc 2 3 rfl)
    simp at e1 e2 e3
    exact ⟨⟨s1, s2, s3⟩, by rw [e1, e2, e3]; rfl, trivial⟩) (arg_cell (by kernel_rfl) h)
  exact ⟨l, e, h1⟩
theorem slotAssigns_all (xs : List AV) (h1 : xs.length = 3) (h2 : ∀ i, i < 3 → ArgOk Try.prog ([9, 22, 23].getD i 0) (xs.getD i default)) : Fn Try.prog 3 xs .sc (.bool true) := by
  obtain ⟨a, b, c, rfl⟩ := lst3 h1
  obtain ⟨p, e1, _⟩ := arg_strT (h2 0 (by omega))
  obtain ⟨l, e2, _⟩ := arg_dms (h2 1 (by omega))
  obtain ⟨k, e3, _⟩ := arg_cps (h2 2 (by omega))
  simp at e1 e2 e3
  subst e1 e2 e3
  exact tassigns_fn p l k
theorem slotDelays_all (xs : List AV) (h1 : xs.length = 4) (h2 : ∀ i, i < 4 → ArgOk Try.prog ([22, 25, 9, 9].getD i 0) (xs.getD i default)) : Fn Try.prog 4 xs .sc (.bool true) := by
  obtain ⟨a, b, c, d, rfl⟩ := lst4 h1
  obtain ⟨l, e1, _⟩ := arg_dms (h2 0 (by omega))
  obtain ⟨s, e2, hs⟩ := arg_sos (h2 1 (by omega))
  obtain ⟨p, e3, _⟩ := arg_strT (h2 2 (by omega))
  obtain ⟨q, e4, _⟩ := arg_strT (h2 3 (by omega))
  simp at e1 e2 e3 e4
  subst e1 e2 e3 e4
  exact tdelays_fn l s p q hs
theorem slotReleases_all (xs : List AV) (h1 : xs.length = 4) (h2 : ∀ i, i < 4 → ArgOk Try.prog ([9, 9, 22, 23].getD i 0) (xs.getD i default))
    (h3 : ∀ i s L e, i < 4 → xs.getD i default = .sl s L → Try.prog.underlying ([9, 9, 22, 23].getD i 0) = some (.slice e) → L.length * Try.prog.bytesOf e ≤ Go.reachBytes) : Fn Try.prog 5 xs .sc (.bool true) := by
  obtain ⟨a, b, c, d, rfl⟩ := lst4 h1
  obtain ⟨p, e1, _⟩ := arg_strT (h2 0 (by omega))
  obtain ⟨q, e2, _⟩ := arg_strT (h2 1 (by omega))
  obtain ⟨l, e3, _⟩ := arg_dms (h2 2 (by omega))
  obtain ⟨k, e4, _⟩ := arg_cps (h2 3 (by omega))
  have b1 : Try.prog.bytesOf 47 = 24 := by kernel_rfl
  have q1 := h3 2 2 (l.map encM) 47 (by omega) e3 (by kernel_rfl)
  rw [b1, List.length_map] at q1
  unfold Go.reachBytes at q1
  simp at e1 e2 e3 e4
  subst e1 e2 e3 e4
  exact treleases_fn p q l k (by omega)
end Go.Proofs.Ytpbmalfoncjcnaa
