/- The law XmlDeep, by the quick way: the number is cut to twelve, and each of these is tried. -/
import Derived.Test.YtppgjkjdddanbaaDoorXl
namespace Go.Proofs.YtppgjkjdddanbaaDoor
open Go.RowKit
namespace Deep
noncomputable def cl : M.CallF := M.callN mPr 2000 40
def cL : Code → Code | .seq a _ => a | c => c
def cR : Code → Code | .seq _ b => b | c => c
noncomputable def b0 : Code := Tryd.f9.body.getD .skip
noncomputable def b1 : Code := cR b0
noncomputable def b2 : Code := cR b1
noncomputable def b3 : Code := cR b2
theorem b0_eq : b0 = .seq (cL b0) (.seq (cL b1) (.seq (cL b2) b3)) := by kernel_rfl
noncomputable def fn : M.Fn1 := ⟨Tryd.f9.ntmps, Tryd.f9.results.toList, b0⟩
theorem fn_at : mPr.fns.get 9 = some fn := by kernel_rfl
noncomputable def rn (k : Nat) : Code → M.St → Option (M.Ex × M.St) := M.run mPr.tab fn.ntmps cl k
noncomputable def stOf (d : M.St) : Option (M.Ex × M.St) → M.St
  | some (_, s) => s
  | none => d
noncomputable def s0 (n : Int) : M.St := ⟨M.putArgs 0 [.int .u8 n] .emp, ⟨1, .emp⟩, []⟩
noncomputable def s1 (n : Int) : M.St := stOf (s0 n) (rn 1999 (cL b0) (s0 n))
noncomputable def s2 (n : Int) : M.St := stOf (s1 n) (rn 1998 (cL b1) (s1 n))
noncomputable def s3 (n k : Int) : M.St :=
  ⟨((stOf (s2 n) (rn 1997 (cL b2) (s2 n))).env.set 11 (.int .i64 k)).set 4 (.int .i64 k), (stOf (s2 n) (rn 1997 (cL b2) (s2 n))).H, (stOf (s2 n) (rn 1997 (cL b2) (s2 n))).ds⟩
theorem h1 (n : Int) : rn 1999 (cL b0) (s0 n) = some (.normal, s1 n) := by kernel_rfl
theorem h2 (n : Int) : rn 1998 (cL b1) (s1 n) = some (.normal, s2 n) := by kernel_rfl
theorem h3 (n : Int) : rn 1997 (cL b2) (s2 n) = some (.normal, s3 n ((IntKind.i64.wrap n).tmod 12)) := by kernel_rfl
noncomputable def fin (r : Option (M.Ex × M.St)) : Bool :=
  match r with
  | some (.normal, s) | some (.ret, s) => match M.leaveF mPr 2000 cl fn s.env s.ds none s.H with
    | some (.ret (.bool b), _) => b
    | _ => false
  | _ => false
theorem run_seq (k : Nat) (a b : Code) (s s' : M.St) (h : rn k a s = some (.normal, s')) : rn (k + 1) (.seq a b) s = rn k b s' := by
  show M.step mPr.tab fn.ntmps cl (rn k) (.seq a b) s = _
  simp only [M.step, h]
theorem run_body (n : Int) : rn 2000 b0 (s0 n) = rn 1997 b3 (s3 n ((IntKind.i64.wrap n).tmod 12)) := by
  rw [b0_eq, show (2000 : Nat) = 1999 + 1 from rfl, run_seq 1999 _ _ _ _ (h1 n), show (1999 : Nat) = 1998 + 1 from rfl, run_seq 1998 _ _ _ _ (h2 n), show (1998 : Nat) = 1997 + 1 from rfl, run_seq 1997 _ _ _ _ (h3 n)]
theorem k0 (n : Int) : fin (rn 1997 b3 (s3 n 0)) = true := by kernel_rfl
theorem k1 (n : Int) : fin (rn 1997 b3 (s3 n 1)) = true := by kernel_rfl
theorem k2 (n : Int) : fin (rn 1997 b3 (s3 n 2)) = true := by kernel_rfl
theorem k3 (n : Int) : fin (rn 1997 b3 (s3 n 3)) = true := by kernel_rfl
theorem k4 (n : Int) : fin (rn 1997 b3 (s3 n 4)) = true := by kernel_rfl
theorem k5 (n : Int) : fin (rn 1997 b3 (s3 n 5)) = true := by kernel_rfl
theorem k6 (n : Int) : fin (rn 1997 b3 (s3 n 6)) = true := by kernel_rfl
theorem k7 (n : Int) : fin (rn 1997 b3 (s3 n 7)) = true := by kernel_rfl
theorem k8 (n : Int) : fin (rn 1997 b3 (s3 n 8)) = true := by kernel_rfl
theorem k9 (n : Int) : fin (rn 1997 b3 (s3 n 9)) = true := by kernel_rfl
theorem k10 (n : Int) : fin (rn 1997 b3 (s3 n 10)) = true := by kernel_rfl
theorem k11 (n : Int) : fin (rn 1997 b3 (s3 n 11)) = true := by kernel_rfl
theorem cut (m : Nat) (h : m < 256) : ((IntKind.i64.wrap (m : Int)).tmod 12) = ((m % 12 : Nat) : Int) := by
  revert m
  decide +kernel
theorem all (n : Int) (h0 : 0 ≤ n) (h1 : n < 256) : fin (rn 2000 b0 (s0 n)) = true := by
  obtain ⟨m, rfl⟩ : ∃ m : Nat, n = (m : Int) := ⟨n.toNat, by omega⟩
  rw [run_body, cut m (by omega)]
  have hm : m % 12 < 12 := Nat.mod_lt _ (by decide)
  generalize m % 12 = j at hm
  rcases j with _ | _ | _ | _ | _ | _ | _ | _ | _ | _ | _ | _ | j
  · exact k0 _
  · exact k1 _
  · exact k2 _
  · exact k3 _
  · exact k4 _
  · exact k5 _
  · exact k6 _
  · exact k7 _
  · exact k8 _
  · exact k9 _
  · exact k10 _
  · exact k11 _
  · omega
end Deep
end Go.Proofs.YtppgjkjdddanbaaDoor
