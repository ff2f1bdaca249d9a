/- The law TextChars: its walk. -/
import Derived.Test.YtmfeojhphdmodaaDoorLv
import Derived.Test.YtmfeojhphdmodaaDoorTr5
namespace Go.Proofs.YtmfeojhphdmodaaDoor
open Go.RowKit
open Hb

set_option maxHeartbeats 1000000 in
theorem textChars_walk (s : ByteArray) (w0 : s.size ≤ 140737488351232) (w : World)
    (hL : laidMet Tryd.prog [("unicode/utf8.acceptRanges", Rows.laid_unicode_utf8_acceptRanges), ("unicode/utf8.first", Rows.laid_unicode_utf8_first)] w) :
    Calls Tryd.prog 10 #[.string s] w fun e w' => e = .returned (.bool true) ∧ Below w.heap.size w w' := by
  have hT := tabs_of hL
  have c1 := fun W => chars_any s W
  have c2 := fun (W : World) (b : Below w.heap.size w W) => refChars_any s W (by omega) (Utf8Tabs_below hT b)
  have c3 := fun W => name_any s W (by omega)
  have c4 := fun W => refName_any s W (by omega)
  have c5 := fun W => space_any s W (by omega)
  have c6 := fun W => refSpace_any s W (by omega)
  generalize chars s.data.toList = x at c1 c2
  generalize isName s.data.toList = y at c3 c4
  generalize space s.data.toList = z at c5 c6
  have C1 := Lib.hid c1
  have C2 := Lib.hid c2
  have C3 := Lib.hid c3
  have C4 := Lib.hid c4
  have C5 := Lib.hid c5
  have C6 := Lib.hid c6
  clear c1 c2 c3 c4 c5 c6 hL hT
  go_enter Tryd.func10, Tryd.ntmps10
  go_wp2_with fail
  refine (live_any _).mono ?_
  rintro e w1 ⟨rfl, b1⟩
  go_wp2_with fail
  refine (C1.out _).mono ?_
  rintro e w2 ⟨rfl, b2⟩
  have bb := below_then b1 (Nat.le_refl _) b2
  go_wp2_with fail
  refine (C2.out _ bb).mono ?_
  rintro e w3 ⟨rfl, b3⟩
  go_wp2_with fail
  refine (C3.out _).mono ?_
  rintro e w4 ⟨rfl, b4⟩
  obtain rfl := b4.symm
  go_wp2_with fail
  refine (C4.out _).mono ?_
  rintro e w4 ⟨rfl, b4⟩
  obtain rfl := b4.symm
  go_wp2_with fail
  refine (C5.out _).mono ?_
  rintro e w5 ⟨rfl, b5⟩
  go_wp2_with fail
  refine (C6.out _).mono ?_
  rintro e w6 ⟨rfl, b6⟩
  obtain rfl := b6.symm
  go_wp2_with fail
  go_ret
  exact ⟨by simp, below_then (below_then bb (Nat.le_refl _) b3) (Nat.le_refl _) b5⟩
end Go.Proofs.YtmfeojhphdmodaaDoor
