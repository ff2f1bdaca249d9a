/- strings.CutPrefix, CutSuffix: over the shelf's HasPrefix, HasSuffix. -/
import Derived.Test.YtppgjkjdddanbaaDoorF1
namespace Go.Proofs.YtppgjkjdddanbaaDoor
open Go.RowKit
open Hb

def preB (s p : ByteArray) : Bool := decide (p.size ≤ s.size) && ((s.extract 0 p.size).toList == p.toList)

set_option maxRecDepth 100000 in
set_option maxHeartbeats 4000000 in
theorem pre_any (s p : ByteArray) (w : World) :
    Calls Tryd.prog 48 #[.string s, .string p] w fun e w' => e = .returned (.bool (preB s p)) ∧ w' = w := by
  unfold preB
  by_cases h : p.size ≤ s.size
  · have c1 : decide ((p.size : Int) ≤ (s.size : Int)) = true := by simp; omega
    have c2 : (0 : Int) ≤ (p.size : Int) := by omega
    have c3 : (p.size : Int) ≤ (s.size : Int) := by omega
    have c4 : decide (p.size ≤ s.size) = true := by simpa using h
    rw [c4]
    go_enter Tryd.func48, Tryd.ntmps48
    go_wp2
    go_ret
    exact ⟨rfl, rfl⟩
  · have c1 : decide ((p.size : Int) ≤ (s.size : Int)) = false := by simp; omega
    have c4 : decide (p.size ≤ s.size) = false := by simpa using h
    rw [c4]
    go_enter Tryd.func48, Tryd.ntmps48
    go_wp2
    go_ret
    exact ⟨rfl, rfl⟩

set_option maxRecDepth 100000 in
set_option maxHeartbeats 4000000 in
theorem prefix_any (s p : ByteArray) (w : World) :
    Calls Tryd.prog 35 #[.string s, .string p] w fun e w' => e = .returned (.bool (preB s p)) ∧ w' = w := by
  have H := Lib.hid (fun W => pre_any s p W)
  generalize preB s p = b at H ⊢
  go_enter Tryd.func35, Tryd.ntmps35
  go_wp2_with (go_at_call 48; refine (H.out _).mono ?_; rintro e w' ⟨rfl, rfl⟩)
  go_ret
  exact ⟨rfl, rfl⟩

def cutPre (s p : ByteArray) : ByteArray × Bool := if preB s p = true then (s.extract p.size s.size, true) else (s, false)

set_option maxRecDepth 100000 in
set_option maxHeartbeats 4000000 in
theorem slCutPre_any (s p : ByteArray) (w : World) :
    Calls Tryd.prog 45 #[.string s, .string p] w fun e w' => e = .returned (.tuple #[.string (cutPre s p).1, .bool (cutPre s p).2]) ∧ w' = w := by
  have H := Lib.hid (fun W => pre_any s p W)
  unfold cutPre
  cases hb : preB s p with
  | false =>
    rw [hb] at H
    go_enter Tryd.func45, Tryd.ntmps45
    go_wp2_with (go_at_call 48; refine (H.out _).mono ?_; rintro e w' ⟨rfl, rfl⟩)
    go_ret2
    exact ⟨rfl, rfl⟩
  | true =>
    rw [hb] at H
    have hle : p.size ≤ s.size := by
      unfold preB at hb
      simp at hb
      exact hb.1
    have c2 : (0 : Int) ≤ (p.size : Int) := by omega
    have c3 : (p.size : Int) ≤ (s.size : Int) := by omega
    go_enter Tryd.func45, Tryd.ntmps45
    go_wp2_with (go_at_call 48; refine (H.out _).mono ?_; rintro e w' ⟨rfl, rfl⟩)
    go_ret2
    exact ⟨rfl, rfl⟩

set_option maxRecDepth 100000 in
set_option maxHeartbeats 4000000 in
theorem cutPre_any (s p : ByteArray) (w : World) :
    Calls Tryd.prog 32 #[.string s, .string p] w fun e w' => e = .returned (.tuple #[.string (cutPre s p).1, .bool (cutPre s p).2]) ∧ w' = w := by
  have H := Lib.hid (fun W => slCutPre_any s p W)
  generalize (cutPre s p).1 = x at H ⊢
  generalize (cutPre s p).2 = y at H ⊢
  go_enter Tryd.func32, Tryd.ntmps32
  go_wp2_with (go_at_call 45; refine (H.out _).mono ?_; rintro e w' ⟨rfl, rfl⟩)
  go_ret2
  exact ⟨rfl, rfl⟩
end Go.Proofs.YtppgjkjdddanbaaDoor
