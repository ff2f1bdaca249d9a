/- The law XmlDeep: its walk. -/
import Derived.Test.YtppgjkjdddanbaaDoorXd
namespace Go.Proofs.YtppgjkjdddanbaaDoor
open Go.RowKit
namespace Deep
noncomputable def leaveG (P : M.Prg) (fuel : Nat) (C : M.CallF) (g : M.Fn1) (x : Option (M.Ex × M.St)) : Option (M.Ret × M.AHeap) :=
  match x with
  | some (.normal, s) | some (.ret, s) => M.leaveF P fuel C g s.env s.ds none s.H
  | some (.panic v, s) => M.leaveF P fuel C g s.env s.ds (some v) s.H
  | _ => none
theorem enter_gen (P : M.Prg) (fuel : Nat) (C : M.CallF) (g : M.Fn1) (args : List Value) (H : M.AHeap) (h : Nat.blt g.ntmps args.length = false) :
    M.enterF P fuel C g args H = leaveG P fuel C g (M.run P.tab g.ntmps C fuel g.body ⟨M.putArgs 0 args .emp, H, []⟩) := by
  unfold M.enterF leaveG
  rw [h]
  rfl
theorem short (n : Int) : Nat.blt fn.ntmps [Value.int .u8 n].length = false := by kernel_rfl
theorem fn_body : fn.body = b0 := by unfold fn; rfl
theorem run_eq (n : Int) : M.run mPr.tab fn.ntmps cl 2000 fn.body ⟨M.putArgs 0 [.int .u8 n] .emp, ⟨1, .emp⟩, []⟩ = rn 2000 b0 (s0 n) := by
  rw [fn_body]
  unfold rn s0
  rfl
theorem leave_of (r : Option (M.Ex × M.St)) (h : fin r = true) : ∃ H1, leaveG mPr 2000 cl fn r = some (.ret (.bool true), H1) := by
  unfold fin at h
  unfold leaveG
  split at h
  · split at h
    · rename_i s _ b H1 hl
      subst h
      exact ⟨H1, hl⟩
    · cases h
  · split at h
    · rename_i s _ b H1 hl
      subst h
      exact ⟨H1, hl⟩
    · cases h
  · cases h
theorem runs (n : Int) (h0 : 0 ≤ n) (h1 : n < 256) : ∃ H1, M.enterF mPr 2000 cl fn [.int .u8 n] ⟨1, .emp⟩ = some (.ret (.bool true), H1) := by
  rw [enter_gen _ _ _ _ _ _ (short n), run_eq]
  exact leave_of _ (all n h0 h1)
end Deep
theorem xmlDeep_walk (n : Int) (hn : (Lit.int .u8 n).wf = true) (w : World) : Calls Tryd.prog 9 #[.int .u8 n] w fun e w' => e = .returned (.bool true) ∧ Below w.heap.size w w' := by
  have h1 : IntKind.u8.min = 0 := by decide
  have h2 : IntKind.u8.max = 255 := by decide
  have hr : 0 ≤ n ∧ n < 256 := by
    simp only [Lit.wf, Bool.and_eq_true, decide_eq_true_eq, h1, h2] at hn
    omega
  obtain ⟨H1, h⟩ := Deep.runs n hr.1 hr.2
  exact M.calls_of_run mixed_ok mTab_ok mFns_ok mLaw_ok Deep.fn_at rfl h (fun m v' hv => by cases hv; rfl) w
end Go.Proofs.YtppgjkjdddanbaaDoor
