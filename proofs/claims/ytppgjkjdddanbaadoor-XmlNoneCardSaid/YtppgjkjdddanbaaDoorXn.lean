/- The law XmlNone: its walk, by the quick way. -/
import Derived.Test.YtppgjkjdddanbaaDoorMzd
import Derived.Test.YtppgjkjdddanbaaDoorXl
namespace Go.Proofs.YtppgjkjdddanbaaDoor
open Go.RowKit
namespace None
noncomputable def fn : M.Fn1 := ⟨Tryd.f10.ntmps, Tryd.f10.results.toList, Tryd.f10.body.getD .skip⟩
theorem fn_at : mPr.fns.get 10 = some fn := by kernel_rfl
theorem some_says (n c : Nat) : M.saysTrue (M.enterF mPr 2000 (M.callN mPr 2000 40) fn [.slice (some ⟨0, 0, none⟩) n c] ⟨1, .emp⟩) = true := by kernel_rfl
theorem none_says : M.saysTrue (M.enterF mPr 2000 (M.callN mPr 2000 40) fn [.slice none 0 0] ⟨1, .emp⟩) = true := by kernel_rfl
end None
theorem xmlNone_some (blk off n c : Nat) (w : World) : Calls Tryd.prog 10 #[.slice (some ⟨blk, off, none⟩) n c] w fun e w' => e = .returned (.bool true) ∧ Below w.heap.size w w' := by
  obtain ⟨H1, h⟩ := M.saysTrue_of (None.some_says n c)
  exact M.calls_of_run2 mixed_ok mTab_ok mFns_ok mLaw_ok None.fn_at (M.mu1_fresh _) (.cons (M.mu1_slice blk off n c) (.nil _)) h (fun m v' hv => by cases hv; rfl) w
theorem xmlNone_none (w : World) : Calls Tryd.prog 10 #[.slice none 0 0] w fun e w' => e = .returned (.bool true) ∧ Below w.heap.size w w' := by
  obtain ⟨H1, h⟩ := M.saysTrue_of None.none_says
  exact M.calls_of_run mixed_ok mTab_ok mFns_ok mLaw_ok None.fn_at rfl h (fun m v' hv => by cases hv; rfl) w
end Go.Proofs.YtppgjkjdddanbaaDoor
