/- xml.New, Depth, Left, Broken; the closure that tells. -/
import Derived.Test.YtppgjkjdddanbaaDoorF2
import Derived.WalkSmall
namespace Go.Proofs.YtppgjkjdddanbaaDoor
open Go.RowKit
open Hb

abbrev pt (A : Nat) : Value := .pointer (some ⟨A, 0, none⟩)

set_option maxRecDepth 100000 in
set_option maxHeartbeats 4000000 in
theorem new_any (w : World) : Calls Tryd.prog 11 #[] w fun o w' => o = .returned (pt w.heap.size) ∧
    w' = w.alloc (.cells #[.slice none 0 0, .int .u8 0, .slice none 0 0, .bool false, .bool false, .int .i64 0] 47) := by
  go_enter Tryd.func11, Tryd.ntmps11
  go_wp2
  go_ret
  exact ⟨rfl, rfl⟩

set_option maxRecDepth 100000 in
set_option maxHeartbeats 4000000 in
theorem depth_any (A : Nat) (vw q ro be br : Value) (g : Option Addr) (n c : Nat) (w : World) (hx : Box w A 47 #[vw, q, .slice g n c, ro, be, br]) :
    Calls Tryd.prog 15 #[pt A] w fun o w' => o = .returned (.int .i64 n) ∧ w' = w := by
  have x2 : w.cell? ⟨A, 2, none⟩ = some (.slice g n c) := hx.cell 2
  go_enter Tryd.func15, Tryd.ntmps15
  go_wp2
  go_ret
  exact ⟨rfl, rfl⟩

set_option maxRecDepth 100000 in
set_option maxHeartbeats 4000000 in
theorem left_any (A : Nat) (q vo ro be br : Value) (g : Option Addr) (n c : Nat) (w : World) (hx : Box w A 47 #[.slice g n c, q, vo, ro, be, br]) :
    Calls Tryd.prog 17 #[pt A] w fun o w' => o = .returned (.int .i64 n) ∧ w' = w := by
  have x0 : w.cell? ⟨A, 0, none⟩ = some (.slice g n c) := hx.cell 0
  go_enter Tryd.func17, Tryd.ntmps17
  go_wp2
  go_ret
  exact ⟨rfl, rfl⟩

set_option maxRecDepth 100000 in
set_option maxHeartbeats 4000000 in
theorem broken_any (A : Nat) (vw q vo ro be br : Value) (w : World) (hx : Box w A 47 #[vw, q, vo, ro, be, br]) :
    Calls Tryd.prog 18 #[pt A] w fun o w' => o = .returned br ∧ w' = w := by
  have x5 : w.cell? ⟨A, 5, none⟩ = some br := hx.cell 5
  go_enter Tryd.func18, Tryd.ntmps18
  go_wp2
  go_ret
  exact ⟨rfl, rfl⟩
end Go.Proofs.YtppgjkjdddanbaaDoor
