/- The Xml laws' own 'live', by the quick way. -/
import Derived.Test.YtppgjkjdddanbaaDoorMzc
import Derived.Test.YtppgjkjdddanbaaDoorTx2
namespace Go.Proofs.YtppgjkjdddanbaaDoor
open Go.RowKit
noncomputable def mT : M.Tab := M.mkTab Tryd.prog [] Tryd.prog.types.size
noncomputable def mPr : M.Prg := ⟨mT, M.mkFns Tryd.prog Tryd.prog.funcs.size, (M.Tr.emp.set 79 M.lawIdx).set 29 (M.lawStr (fun s => Told (unesc (s.size + 1) s.data.toList)) 70368744177664)⟩
theorem mFlds : M.fieldsIn (M.mkTab Tryd.prog [] Tryd.prog.types.size) Tryd.prog.types.size = true := by kernel_rfl
theorem mT_ok : M.TabOk Tryd.prog mT := by
  unfold mT
  exact M.mkTab_ok mFlds
theorem tab_mk (a : M.Tab) (b : M.Tr M.Fn1) (c : M.Tr (List Value → M.AHeap → Option (M.Ret × M.AHeap))) : (M.Prg.mk a b c).tab = a := rfl
theorem fns_mk (a : M.Tab) (b : M.Tr M.Fn1) (c : M.Tr (List Value → M.AHeap → Option (M.Ret × M.AHeap))) : (M.Prg.mk a b c).fns = b := rfl
theorem mTab_ok : M.TabOk Tryd.prog mPr.tab := by
  unfold mPr
  rw [tab_mk]
  exact mT_ok
theorem mFns_ok : M.FnsOk Tryd.prog mPr.fns := by
  unfold mPr
  rw [fns_mk]
  exact M.mkFns_ok
theorem mixed_ok : Tryd.prog.follows .mixedOrders = true := by kernel_rfl
theorem mLaw_ok : ∀ f k, mPr.law.get f = some k → M.LawOk Tryd.prog f k := by
  intro f k h
  have h' : ((M.Tr.emp.set 79 M.lawIdx).set 29 (M.lawStr (fun s => Told (unesc (s.size + 1) s.data.toList)) 70368744177664)).get f = some k := h
  rw [M.Tr.get_set] at h'
  split at h'
  · rename_i e
    subst e
    obtain rfl := Option.some.inj h'
    exact M.lawStr_ok Tryd.func29 rfl (by kernel_rfl) (fun s w hs => unescape_any s w hs)
  · rw [M.Tr.get_set] at h'
    split at h'
    · rename_i e
      subst e
      obtain rfl := Option.some.inj h'
      exact M.lawIdx_ok Tryd.func79 (by kernel_rfl) rfl (by kernel_rfl) (by kernel_rfl)
    · rw [M.Tr.get_e] at h'; cases h'
theorem live_says : M.says mPr 2000 40 14 = true := by kernel_rfl
theorem live_any (w : World) : Calls Tryd.prog 14 #[] w fun e w' => e = .returned (.bool true) ∧ Below w.heap.size w w' :=
  M.calls_of_says mixed_ok mTab_ok mFns_ok mLaw_ok live_says w
end Go.Proofs.YtppgjkjdddanbaaDoor
