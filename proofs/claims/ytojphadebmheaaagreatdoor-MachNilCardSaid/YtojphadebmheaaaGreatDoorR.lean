/- The law's function, whatever its argument: the run by the kernel, and what it says of the model's call. -/
import Derived.Test.YtojphadebmheaaaGreatDoorK
namespace Go.Proofs.YtojphadebmheaaaGreatDoor
open Go Go.Proofs.Ago
set_option maxRecDepth 1000000
theorem run_law (x : Int) : callM tr.get memo 3000 3 [.int .i64 x] [] = some (.bool true, []) := by kernel_rfl
theorem mixed : Tryz.prog.follows .mixedOrders = true := by kernel_rfl
theorem law_calls (x : Int) (w : World) : Calls Tryz.prog 3 #[.int .i64 x] w fun e w' => e = .returned (.bool true) ∧ Grows w w' := by
  refine (calls_of_run mixed tr_ok ((memo_sound memo_ok 3000).1 _ _ _ _ (run_law x)) w #[.int .i64 x] rfl fun i hi => ?_).mono fun e w' hp => ?_
  · obtain rfl : i = 0 := by simpa using hi
    exact .int _ _
  · obtain ⟨cv, φ', μ', rfl, hv, hg⟩ := hp
    rw [hv.bool_inv]
    exact ⟨rfl, hg⟩
end Go.Proofs.YtojphadebmheaaaGreatDoor
