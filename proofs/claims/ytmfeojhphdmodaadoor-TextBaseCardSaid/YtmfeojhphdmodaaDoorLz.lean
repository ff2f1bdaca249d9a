/- The law TextBase: its walk. -/
import Derived.Test.YtmfeojhphdmodaaDoorLv
import Derived.Test.YtmfeojhphdmodaaDoorTr4
namespace Go.Proofs.YtmfeojhphdmodaaDoor
open Go.RowKit
open Hb

set_option maxHeartbeats 1000000 in
theorem textBase_walk (s : ByteArray) (w0 : s.size ≤ 140737488351232) (w : World) :
    Calls Tryd.prog 4 #[.string s] w fun e w' => e = .returned (.bool true) ∧ Below w.heap.size w w' := by
  have c0 := short_any s w (by omega)
  have hl := short_len s
  generalize s.data.toList.take 3000 = l at c0 hl
  generalize (ByteArray.mk l.toArray) = t at c0 hl
  have c1 := fun W => unbase64_any t W (by omega)
  have c2 := fun W => refUnbase64_any t W (by omega)
  have c3 := fun W => base64_any t W (by omega)
  have c4 := fun W => refBase64_any t W (by omega)
  obtain ⟨b, n, ht⟩ : ∃ (b : ByteArray) (n : Int), Told (unb t.data.toList) = .tuple #[.string b, .int .i64 n] := by
    cases unb t.data.toList with
    | none => exact ⟨_, _, rfl⟩
    | some x => exact ⟨_, _, told_some x⟩
  rw [ht] at c1 c2
  generalize (ByteArray.mk (b64 t.data.toList).toArray) = x at c3 c4
  have C0 := Lib.hid c0
  have C1 := Lib.hid c1
  have C2 := Lib.hid c2
  have C3 := Lib.hid c3
  have C4 := Lib.hid c4
  clear c0 c1 c2 c3 c4 hl ht
  go_enter Tryd.func4, Tryd.ntmps4
  go_wp2_with fail
  refine C0.out.mono ?_
  rintro e w1 ⟨rfl, b0⟩
  obtain rfl := b0.symm
  go_wp2_with fail
  refine (C1.out _).mono ?_
  rintro e w2 ⟨rfl, b1⟩
  go_wp2_with fail
  refine (C2.out _).mono ?_
  rintro e w3 ⟨rfl, b2⟩
  go_wp2_with fail
  refine (live_any _).mono ?_
  rintro e w4 ⟨rfl, b3⟩
  go_wp2_with fail
  refine (C3.out _).mono ?_
  rintro e w5 ⟨rfl, b4⟩
  go_wp2_with fail
  refine (C4.out _).mono ?_
  rintro e w6 ⟨rfl, b5⟩
  obtain rfl := b5.symm
  go_wp2_with fail
  go_ret
  exact ⟨rfl, below_then (below_then (below_then b1 (Nat.le_refl _) b2) (Nat.le_refl _) b3) (Nat.le_refl _) b4⟩
end Go.Proofs.YtmfeojhphdmodaaDoor
