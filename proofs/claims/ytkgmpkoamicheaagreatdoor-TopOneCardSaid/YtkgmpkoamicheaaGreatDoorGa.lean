/- The quick way's tables at this translation, and the functions that are told by a law. -/
import Derived.Test.YtkgmpkoamicheaaGreatDoorMzf
import Derived.Test.YtkgmpkoamicheaaGreatDoorTx2
namespace Go.Proofs.YtkgmpkoamicheaaGreatDoor
open Go.RowKit
noncomputable def mT : M.Tab := M.mkTab Tryz.prog [128, 61] Tryz.prog.types.size
noncomputable def mLaws : M.Tr (List Value → M.AHeap → Option (M.Ret × M.AHeap)) :=
  ((M.Tr.emp.set 262 M.lawIdx).set 196 M.lawCount).set 150 (M.lawStr (fun s => Told (unesc (s.size + 1) s.data.toList)) 70368744177664)
noncomputable def mPr : M.Prg := ⟨mT, M.mkFns Tryz.prog Tryz.prog.funcs.size, mLaws⟩
theorem mFlds : M.fieldsIn (M.mkTab Tryz.prog [128, 61] Tryz.prog.types.size) Tryz.prog.types.size = true := by kernel_rfl
theorem mT_ok : M.TabOk Tryz.prog mT := by
  unfold mT
  exact M.mkTab_ok mFlds
theorem tab_mk (a : M.Tab) (b : M.Tr M.Fn1) (c : M.Tr (List Value → M.AHeap → Option (M.Ret × M.AHeap))) : (M.Prg.mk a b c).tab = a := rfl
theorem fns_mk (a : M.Tab) (b : M.Tr M.Fn1) (c : M.Tr (List Value → M.AHeap → Option (M.Ret × M.AHeap))) : (M.Prg.mk a b c).fns = b := rfl
theorem mTab_ok : M.TabOk Tryz.prog mPr.tab := by
  unfold mPr
  rw [tab_mk]
  exact mT_ok
theorem mFns_ok : M.FnsOk Tryz.prog mPr.fns := by
  unfold mPr
  rw [fns_mk]
  exact M.mkFns_ok
theorem mixed_ok : Tryz.prog.follows .mixedOrders = true := by kernel_rfl
set_option maxHeartbeats 4000000 in
set_option maxRecDepth 100000 in
theorem mLaw_ok : ∀ f k, mPr.law.get f = some k → M.LawOk Tryz.prog f k := by
  intro f k h
  have h' : mLaws.get f = some k := h
  unfold mLaws at h'
  rw [M.Tr.get_set] at h'
  split at h'
  · rename_i e
    subst e
    obtain rfl := Option.some.inj h'
    exact M.lawStr_ok Tryz.func150 rfl (by kernel_rfl) (fun s w hs => unescape_any s w hs)
  rw [M.Tr.get_set] at h'
  split at h'
  · rename_i e
    subst e
    obtain rfl := Option.some.inj h'
    exact M.lawCount_ok Tryz.func196 (by kernel_rfl) rfl (by kernel_rfl) (by kernel_rfl)
  rw [M.Tr.get_set] at h'
  split at h'
  · rename_i e
    subst e
    obtain rfl := Option.some.inj h'
    exact M.lawIdx_ok Tryz.func262 (by kernel_rfl) rfl (by kernel_rfl) (by kernel_rfl)
  rw [M.Tr.get_e] at h'; cases h'
end Go.Proofs.YtkgmpkoamicheaaGreatDoor
