/- The law TopOne, by the quick way: both of its inputs are tried. -/
import Derived.Test.YtkgmpkoamicheaaGreatDoorGa
import Derived.Test.YtkgmpkoamicheaaGreatDoorMzd
namespace Go.Proofs.YtkgmpkoamicheaaGreatDoor
open Go.RowKit
namespace One
noncomputable def fn : M.Fn1 := ⟨Tryz.f3.ntmps, Tryz.f3.results.toList, Tryz.f3.body.getD .skip⟩
theorem fn_at : mPr.fns.get 3 = some fn := by kernel_rfl
theorem yes : M.saysTrue (M.enterF mPr 2000 (M.callN mPr 2000 50) fn [.bool true] ⟨1, .emp⟩) = true := by kernel_rfl
theorem no : M.saysTrue (M.enterF mPr 2000 (M.callN mPr 2000 50) fn [.bool false] ⟨1, .emp⟩) = true := by kernel_rfl
end One
end Go.Proofs.YtkgmpkoamicheaaGreatDoor
