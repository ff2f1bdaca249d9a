/- The law TopOne: its walk. -/
import Derived.Test.YtkgmpkoamicheaaGreatDoorGo
namespace Go.Proofs.YtkgmpkoamicheaaGreatDoor
open Go.RowKit
set_option maxHeartbeats 4000000 in
set_option maxRecDepth 100000 in
theorem topOne_walk (a : Bool) (w : World) : Calls Tryz.prog 3 #[.bool a] w fun e w' => e = .returned (.bool true) ∧ Below w.heap.size w w' := by
  cases a
  · obtain ⟨H1, h⟩ := M.saysTrue_of One.no
    exact M.calls_of_run (P := Tryz.prog) (Pr := mPr) mixed_ok mTab_ok mFns_ok mLaw_ok One.fn_at rfl h (fun m v' hv => by cases hv; rfl) w
  · obtain ⟨H1, h⟩ := M.saysTrue_of One.yes
    exact M.calls_of_run (P := Tryz.prog) (Pr := mPr) mixed_ok mTab_ok mFns_ok mLaw_ok One.fn_at rfl h (fun m v' hv => by cases hv; rfl) w
end Go.Proofs.YtkgmpkoamicheaaGreatDoor
