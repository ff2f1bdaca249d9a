/- xml's Feed: its deferred function. -/
import Derived.Test.YtppgjkjdddanbaaDoorG8
import Derived.Recover
import Derived.Defers
import Derived.Laws.Pointers
namespace Go.Proofs.YtppgjkjdddanbaaDoor
open Go.RowKit
open Hb

set_option maxRecDepth 100000 in
set_option maxHeartbeats 4000000 in
theorem catch_panics (A B E : Nat) (k : Int) (x0 x1 x2 x3 x4 x5 y : Value) (older : List PanicEntry) (w : World) (hA : Box w A 47 #[x0, x1, x2, x3, x4, x5]) (hB : w.cell? ⟨B, 0, none⟩ = some (pt A)) (hE : w.cell? ⟨E, 0, none⟩ = some y) (hE2 : w.frozen? ⟨E, 0, none⟩ = false) (hEA : E ≠ A) :
    CallsD Tryd.prog 20 #[pt B, pt E] (.panicking ({ v := faultV k, recovered := false } :: older)) w fun e u' w' =>
      e = .returned (.tuple #[]) ∧ u' = .panicking ({ v := faultV k, recovered := true } :: older) ∧ w' = (((w.setCell ⟨A, 5, none⟩ (.int .i64 k)).setCell ⟨E, 0, none⟩ (.int .i64 k)).alloc (.cells #[.int .i64 k] 49)).drew := by
  refine callsD_of_wpS Tryd.func20 rfl fun c₀ cs hu => ?_
  apply wpS_seq
  apply wpS_region
  simp [wpOpsS, go_sem, recoverD, hu, Tryd.ntmps20, Exit.thenS]
  refine wpS_of_wp ?_
  have he : (#[pt B, pt E] ++ (Array.replicate 16 undef).setIfInBounds 3 (faultV k) : Array Value) = #[pt B, pt E, undef, undef, undef, faultV k, undef, undef, undef, undef, undef, undef, undef, undef, undef, undef, undef, undef] := rfl
  rw [he]
  unfold faultV
  have a5 : w.cell? ⟨A, 5, none⟩ = some x5 := hA.cell 5
  have g5 := hA.f 5
  have hta : ∀ W, (Instr.typeAssert (.iface 49 (.agg #[.int .i64 k])) 20 49 true).run Tryd.prog W = .ok (.tuple #[.agg #[.int .i64 k], .bool true]) W := fun W => by kernel_rfl
  have hAl := hA.lt
  have hBl : B < w.heap.size := World.block_lt_of_cell? w _ hB
  have hEl : E < w.heap.size := World.block_lt_of_cell? w _ hE
  have nA : ¬ w.heap.size = A := by omega
  have nA2 : ¬ A = w.heap.size := by omega
  have nB : ¬ B = w.heap.size := by omega
  have nE : ¬ E = w.heap.size := by omega
  have nE2 : ¬ w.heap.size = E := by omega
  have nEA : ¬ A = E := fun h => hEA h.symm
  have cc : ∀ (o : Obj) (p : Addr), p.block < w.heap.size → (w.alloc o).cell? p = w.cell? p := fun o p hp => World.cell?_of_block (Below.heap_alloc w o _ hp)
  have ff : ∀ (o : Obj) (p : Addr), p.block < w.heap.size → (w.alloc o).frozen? p = w.frozen? p := fun o p hp => World.frozen?_of_block (Below.heap_alloc w o _ hp)
  have b0 := (cc (.cells #[.int .i64 k] 49) ⟨B, 0, none⟩ hBl).trans hB
  have b1 := (cc (.cells #[.int .i64 k] 49) ⟨A, 5, none⟩ hAl).trans a5
  have b2 := (cc (.cells #[.int .i64 k] 49) ⟨E, 0, none⟩ hEl).trans hE
  have b3 := (ff (.cells #[.int .i64 k] 49) ⟨A, 5, none⟩ hAl).trans g5
  have b4 := (ff (.cells #[.int .i64 k] 49) ⟨E, 0, none⟩ hEl).trans hE2
  clear cc ff
  go_wp2_with fail
  go_region
  all_goals go_wp2
  exact ⟨rfl, _, rfl, _, results_none rfl _ _ _, rfl, rfl, rfl⟩

set_option maxRecDepth 100000 in
set_option maxHeartbeats 4000000 in
theorem catch_idle (B E : Nat) (w : World) :
    CallsD Tryd.prog 20 #[pt B, pt E] .returning w fun e u' w' => e = .returned (.tuple #[]) ∧ u' = .returning ∧ w' = w := by
  refine callsD_of_wpS Tryd.func20 rfl fun c₀ cs hu => ?_
  apply wpS_seq
  apply wpS_region
  simp [wpOpsS, go_sem, recoverD, hu, Tryd.ntmps20, Exit.thenS]
  refine wpS_of_wp ?_
  have he : (#[pt B, pt E] ++ (Array.replicate 16 undef).setIfInBounds 3 .nilIface : Array Value) = #[pt B, pt E, undef, undef, undef, .nilIface, undef, undef, undef, undef, undef, undef, undef, undef, undef, undef, undef, undef] := rfl
  rw [he]
  go_wp2_with fail
  cases c₀
  simp only at hu
  subst hu
  exact ⟨rfl, _, rfl, _, results_none rfl _ _ _, rfl, rfl, rfl⟩
end Go.Proofs.YtppgjkjdddanbaaDoor
