/- The laws' own 'live', and the laws TextBack and TextOnce: their walks. -/
import Derived.Test.YtmfeojhphdmodaaDoorTp
import Derived.Test.YtmfeojhphdmodaaDoorTn
import Derived.Test.YtmfeojhphdmodaaDoorTm
namespace Go.Proofs.YtmfeojhphdmodaaDoor
open Go.RowKit
open Hb

theorem below_then {B : Nat} {w w1 w2 : World} (h : Below B w w1) (hB : B ≤ w.heap.size) (k : Below w1.heap.size w1 w2) : Below B w w2 :=
  h.trans (k.mono (Nat.le_trans hB h.size))

theorem live_1 : unesc ((ByteArray.mk #[97, 38, 108, 116, 59, 98]).size + 1) (ByteArray.mk #[97, 38, 108, 116, 59, 98]).data.toList = some [97, 60, 98] := by decide +kernel
theorem live_2 : unb (ByteArray.mk #[65, 71, 70, 117, 98, 103, 66, 119, 89, 81, 61, 61]).data.toList = some [0, 97, 110, 110, 0, 112, 97] := by decide +kernel
theorem live_3 : esc (ByteArray.mk #[97, 60, 98]).data.toList = [97, 38, 108, 116, 59, 98] := by decide +kernel
theorem live_4 : isName (ByteArray.mk #[105, 113]).data.toList = true := by decide +kernel

theorem told_some (l : List UInt8) : Told (some l) = .tuple #[.string ⟨l.toArray⟩, .int .i64 0] := rfl

set_option maxHeartbeats 1000000 in
theorem live_any (w : World) : Calls Tryd.prog 14 #[] w fun e w' => e = .returned (.bool true) ∧ Below w.heap.size w w' := by
  have c1 := unescape_any ⟨#[97, 38, 108, 116, 59, 98]⟩ w (by decide)
  rw [live_1, told_some] at c1
  have C1 := Lib.hid c1
  have c2 := fun W => unbase64_any ⟨#[65, 71, 70, 117, 98, 103, 66, 119, 89, 81, 61, 61]⟩ W (by decide)
  rw [live_2] at c2
  simp only [told_some] at c2
  have C2 := Lib.hid c2
  have c3 := fun W => escape_any ⟨#[97, 60, 98]⟩ W (by decide)
  rw [live_3] at c3
  have C3 := Lib.hid c3
  have c4 := fun W => name_any ⟨#[105, 113]⟩ W (by decide)
  rw [live_4] at c4
  have C4 := Lib.hid c4
  clear c1 c2 c3 c4
  go_enter Tryd.func14, Tryd.ntmps14
  go_wp2_with fail
  refine C1.out.mono ?_
  rintro e w1 ⟨rfl, b1⟩
  go_wp2_with fail
  refine (C2.out _).mono ?_
  rintro e w2 ⟨rfl, b2⟩
  go_wp2_with fail
  refine (C3.out _).mono ?_
  rintro e w3 ⟨rfl, b3⟩
  go_wp2_with fail
  refine (C4.out _).mono ?_
  rintro e w4 ⟨rfl, b4⟩
  obtain rfl := b4.symm
  go_wp2_with fail
  go_ret
  exact ⟨rfl, below_then (below_then b1 (Nat.le_refl _) b2) (Nat.le_refl _) b3⟩

theorem short_len (s : ByteArray) : (ByteArray.mk (s.data.toList.take 3000).toArray).size ≤ 3000 := by
  have h := List.length_take_le 3000 s.data.toList
  generalize List.take 3000 s.data.toList = l at h
  simpa [ByteArray.size] using h

set_option maxHeartbeats 1000000 in
theorem textBack_walk (s : ByteArray) (w0 : s.size ≤ 140737488351232) (w : World) :
    Calls Tryd.prog 5 #[.string s] w fun e w' => e = .returned (.bool true) ∧ Below w.heap.size w w' := by
  have c0 := short_any s w (by omega)
  have hl := short_len s
  generalize s.data.toList.take 3000 = l at c0 hl
  have hls : (ByteArray.mk l.toArray).size = l.length := by simp [ByteArray.size]
  have hle : (ByteArray.mk (esc l).toArray).size = (esc l).length := by simp [ByteArray.size]
  have hlb : (ByteArray.mk (b64 l).toArray).size = (b64 l).length := by simp [ByteArray.size]
  have h6 := esc_len l
  have h4 := b64_len l
  have c1 := fun W => escape_any ⟨l.toArray⟩ W (by omega)
  have c2 := fun W => unescape_any ⟨(esc l).toArray⟩ W (by omega)
  rw [show unesc ((ByteArray.mk (esc l).toArray).size + 1) (ByteArray.mk (esc l).toArray).data.toList = some l from unesc_esc l _ (by omega)] at c2
  simp only [told_some] at c2
  have c3 := fun W => base64_any ⟨l.toArray⟩ W (by omega)
  have c4 := fun W => unbase64_any ⟨(b64 l).toArray⟩ W (by omega)
  rw [show unb (ByteArray.mk (b64 l).toArray).data.toList = some l from unb_b64 l] at c4
  simp only [told_some] at c4
  have C0 := Lib.hid c0
  have C1 := Lib.hid c1
  have C2 := Lib.hid c2
  have C3 := Lib.hid c3
  have C4 := Lib.hid c4
  clear c0 c1 c2 c3 c4 hl hls hle hlb h6 h4
  go_enter Tryd.func5, Tryd.ntmps5
  go_wp2_with fail
  refine C0.out.mono ?_
  rintro e w1 ⟨rfl, b0⟩
  obtain rfl := b0.symm
  go_wp2_with fail
  refine (C1.out _).mono ?_
  rintro e w2 ⟨rfl, b1⟩
  go_wp2_with fail
  refine (C2.out _).mono ?_
  rintro e w3 ⟨rfl, b2⟩
  go_wp2_with fail
  refine (C3.out _).mono ?_
  rintro e w4 ⟨rfl, b3⟩
  go_wp2_with fail
  refine (C4.out _).mono ?_
  rintro e w5 ⟨rfl, b4⟩
  go_wp2_with fail
  refine (live_any _).mono ?_
  rintro e w6 ⟨rfl, b5⟩
  go_wp2_with fail
  go_ret
  exact ⟨rfl, below_then (below_then (below_then (below_then b1 (Nat.le_refl _) b2) (Nat.le_refl _) b3) (Nat.le_refl _) b4) (Nat.le_refl _) b5⟩
end Go.Proofs.YtmfeojhphdmodaaDoor
