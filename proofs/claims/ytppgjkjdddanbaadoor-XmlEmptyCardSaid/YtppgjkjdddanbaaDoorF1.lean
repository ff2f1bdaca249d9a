/- xml's small functions: must, space, piece. -/
import Derived.Test.YtppgjkjdddanbaaDoorTx5
import Derived.ScopeJumps
import Derived.WalkMore
import Derived.WalkSmall
namespace Go.Proofs.YtppgjkjdddanbaaDoor
open Go.RowKit
open Hb

def faultV (k : Int) : Value := .iface 49 (.agg #[.int .i64 k])

set_option maxHeartbeats 4000000 in
theorem must_ok (e : Value) (w : World) : Calls Tryd.prog 27 #[.bool true, e] w fun o w' => o = .returned (.tuple #[]) ∧ w' = w := by
  go_enter Tryd.func27, Tryd.ntmps27
  go_wp2
  go_end0
  exact ⟨rfl, rfl⟩

set_option maxHeartbeats 4000000 in
theorem must_no (k : Int) (w : World) : Calls Tryd.prog 27 #[.bool false, .int .i64 k] w fun o w' => o = .panicked [{ v := faultV k, recovered := false }] ∧ w' = w := by
  go_enter Tryd.func27, Tryd.ntmps27
  go_wp2
  exact ⟨rfl, rfl, rfl⟩

/-- how many blanks a text begins with. -/
def lead (l : List UInt8) : Nat := (l.takeWhile blank).length
theorem lead_le (l : List UInt8) : lead l ≤ l.length := (List.takeWhile_sublist _).length_le
theorem lead_drop (l : List UInt8) : (l.dropWhile blank).length = l.length - lead l := by
  have := congrArg List.length (List.takeWhile_append_dropWhile (p := blank) (l := l))
  rw [List.length_append] at this
  unfold lead
  omega

set_option maxHeartbeats 400000 in
theorem lead_any (s : ByteArray) (w : World) (hs : s.size ≤ 9223372036854775807) :
    Calls Tryd.prog 33 #[.string s] w fun e w' => e = .returned (.int .i64 (lead s.data.toList)) ∧ Below w.heap.size w w' := by
  have hcon := Any.strings_TrimLeft_laid Tryd.lays161 (by kernel_rfl) s ⟨#[32, 9, 10, 13]⟩ w (by decide) (Go.Proofs.ascii_of_all (by decide))
  change Calls Tryd.prog 46 _ _ (fun e w' => e = .returned (.string ⟨(List.dropWhile blank s.data.toList).toArray⟩) ∧ Below w.heap.size w w') at hcon
  have hl : (⟨(List.dropWhile blank s.data.toList).toArray⟩ : ByteArray).size = s.size - lead s.data.toList := by
    show (List.dropWhile blank s.data.toList).toArray.size = _
    rw [List.size_toArray, lead_drop, Lib.size_eq]
  have hle : lead s.data.toList ≤ s.size := by
    rw [Lib.size_eq]
    exact lead_le s.data.toList
  generalize (⟨(List.dropWhile blank s.data.toList).toArray⟩ : ByteArray) = r at hcon hl
  generalize lead s.data.toList = k at hl hle
  have H := Lib.hid hcon
  clear hcon
  go_enter Tryd.func33, Tryd.ntmps33
  go_wp2_with (go_at_call 46; refine H.out.mono ?_; rintro e w' ⟨rfl, hB⟩)
  go_ret
  refine ⟨?_, hB⟩
  have e1 : ((s.size : Int) - ((s.size - k : Nat) : Int)) = (k : Int) := by omega
  rw [e1]
  rfl
end Go.Proofs.YtppgjkjdddanbaaDoor
