/- strings.CutSuffix: over the shelf's HasSuffix. -/
import Derived.Test.YtppgjkjdddanbaaDoorF6
import Derived.Test.YtppgjkjdddanbaaDoorSh
namespace Go.Proofs.YtppgjkjdddanbaaDoor
open Go.RowKit
open Hb

def sufB (s p : ByteArray) : Bool := Lib.hasSuffix s.data.toList p.data.toList
def cutSuf (s p : ByteArray) : ByteArray × Bool := if sufB s p = true then (s.extract 0 (s.size - p.size), true) else (s, false)

set_option maxRecDepth 100000 in
set_option maxHeartbeats 4000000 in
theorem slCutSuf_any (s p : ByteArray) (w : World) (hs : s.size ≤ 9223372036854775807) :
    Calls Tryd.prog 64 #[.string s, .string p] w fun e w' => e = .returned (.tuple #[.string (cutSuf s p).1, .bool (cutSuf s p).2]) ∧ w' = w := by
  have h1 := fun W => Tryd.stringslite_HasSuffix s p W hs
  change ∀ W, Calls Tryd.prog _ _ W (fun e w' => e = .returned (.bool (sufB s p)) ∧ w' = W) at h1
  have H := Lib.hid h1
  clear h1
  unfold cutSuf
  cases hb : sufB s p with
  | false =>
    rw [hb] at H
    go_enter Tryd.func64, Tryd.ntmps64
    go_wp2_with (go_at_call 47; refine (H.out _).mono ?_; rintro e w' ⟨rfl, rfl⟩)
    go_ret2
    exact ⟨rfl, rfl⟩
  | true =>
    rw [hb] at H
    have hle : p.size ≤ s.size := by
      unfold sufB Lib.hasSuffix at hb
      have := (List.isSuffixOf_iff_suffix.1 hb).length_le
      rw [Lib.size_eq, Lib.size_eq]
      exact this
    have c2 : (0 : Int) ≤ (s.size : Int) - (p.size : Int) := by omega
    have c3 : (s.size : Int) - (p.size : Int) ≤ (s.size : Int) := by omega
    have c5 : ((s.size : Int) - (p.size : Int)).toNat = s.size - p.size := by omega
    go_enter Tryd.func64, Tryd.ntmps64
    go_wp2_with (go_at_call 47; refine (H.out _).mono ?_; rintro e w' ⟨rfl, rfl⟩)
    go_ret2
    refine ⟨?_, rfl⟩
    rw [← c5]
    rfl

set_option maxRecDepth 100000 in
set_option maxHeartbeats 4000000 in
theorem cutSuf_any (s p : ByteArray) (w : World) (hs : s.size ≤ 9223372036854775807) :
    Calls Tryd.prog 50 #[.string s, .string p] w fun e w' => e = .returned (.tuple #[.string (cutSuf s p).1, .bool (cutSuf s p).2]) ∧ w' = w := by
  have H := Lib.hid (fun W => slCutSuf_any s p W hs)
  generalize (cutSuf s p).1 = x at H ⊢
  generalize (cutSuf s p).2 = y at H ⊢
  go_enter Tryd.func50, Tryd.ntmps50
  go_wp2_with (go_at_call 64; refine (H.out _).mono ?_; rintro e w' ⟨rfl, rfl⟩)
  go_ret2
  exact ⟨rfl, rfl⟩
end Go.Proofs.YtppgjkjdddanbaaDoor
