/- The law's own fact on one transfer. -/
import Derived.Test.YtnmepkcbpkcegaaHear
import Derived.Test.YtnmepkcbpkcegaaRank
namespace Go.Proofs.Ytnmepkcbpkcegaa
open Go.RowKit
attribute [local go_sem] xt_size xt_cell xt_frozen xt_setCell xt_drew xt_drewN
attribute [local go_sem] cell_alloc_ite frozen_alloc_ite setCell_alloc_ite

set_option maxRecDepth 100000 in
set_option maxHeartbeats 4000000 in
theorem handFact (w : World) : Calls Try.prog 14 #[] w (Ret (.bool true) w) := by
  have e1 : giveV 1 0 = .tuple #[.agg #[.int .i64 2, .int .i64 0], .agg #[.bool false, .int .i64 1], .int .i64 0] := rfl
  have e2 : againV 2 0 = .tuple #[.agg #[.bool false, .int .i64 1], .int .i64 0] := rfl
  have e3 : hearV 0 0 false 1 = .tuple #[.agg #[.int .i64 1, .int .i64 1], .agg #[.bool true, .int .i64 1], .bool true, .int .i64 0] := rfl
  have e4 : respV 2 0 1 1 = .tuple #[.int .i64 1, .int .i64 0] := rfl
  have e5 : hearV 2 0 true 1 = .tuple #[.agg #[.int .i64 0, .int .i64 1], .agg #[.bool false, .int .i64 0], .bool false, .int .i64 0] := rfl
  have e6 : sideErr 1 1 = 0 := rfl
  have e7 : sideErr 2 0 = 0 := rfl
  have e8 : sideErr 3 0 = 1 := rfl
  go_enter Try.func14, Try.ntmps14
  go_wp2_with (first | (go_at_call 63; refine (begin_any _).mono ?_; rintro e w1 ⟨rfl, zw1, rfl⟩) | (go_at_call 15; refine (give_any _ _ _).mono ?_; rintro e w2 ⟨rfl, zw2, rfl⟩) | (go_at_call 16; refine (again_any _ _ _).mono ?_; rintro e w3 ⟨rfl, zw3, rfl⟩) | (go_at_call 19; refine (hear_any _ _ _ _ _).mono ?_; rintro e w4 ⟨rfl, zw4, rfl⟩) | (go_at_call 21; refine (resp_any _ _ _ _ _).mono ?_; rintro e w5 ⟨rfl, zw5, rfl⟩) | (go_at_call 23; refine (acts_any _ _ _).mono ?_; rintro e w6 ⟨rfl, zw6, rfl⟩) | (go_at_call 18; refine (hcheck _ _ _).mono ?_; rintro e w7 ⟨rfl, zw7, rfl⟩))
  refine fin2 (by simp [results, Try.results14, go_sem]; rfl) ?_ rfl (by repeat (first | exact Below.refl _ _ | with_reducible refine Below.drew ?_ | with_reducible refine Below.alloc ?_ (by simp <;> omega) _ | with_reducible refine Below.setCell ?_ (by simp <;> omega) _ | with_reducible refine below_xt ?_ (by simp <;> omega) _ | with_reducible refine below_drewN ?_ _))
  rfl
end Go.Proofs.Ytnmepkcbpkcegaa
