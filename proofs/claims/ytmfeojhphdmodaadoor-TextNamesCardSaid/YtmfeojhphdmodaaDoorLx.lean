/- The law TextNames: its walk. -/
import Derived.Test.YtmfeojhphdmodaaDoorLw
namespace Go.Proofs.YtmfeojhphdmodaaDoor
open Go.RowKit
open Hb

set_option maxHeartbeats 1000000 in
theorem textNames_walk (s : ByteArray) (n : Int) (w0 : s.size ≤ 140737488351232) (hn : (Lit.int .u8 n).wf = true) (w : World) :
    Calls Tryd.prog 8 #[.string s, .int .u8 n] w fun e w' => e = .returned (.bool true) ∧ Below w.heap.size w w' := by
  have n0 : 0 ≤ n ∧ n < 256 := by
    have h : (decide ((0 : Int) ≤ n) && decide (n ≤ 255)) = true := hn
    simp at h
    omega
  have c0 := name_any s w (by omega)
  cases hx : isName s.data.toList with
  | false =>
    rw [hx] at c0
    have c1 := fun W => refName_any s W (by omega)
    rw [hx] at c1
    have C0 := Lib.hid c0
    have C1 := Lib.hid c1
    clear c0 c1
    go_enter Tryd.func8, Tryd.ntmps8
    go_wp2_with fail
    refine C0.out.mono ?_
    rintro e w1 ⟨rfl, b0⟩
    obtain rfl := b0.symm
    go_wp2_with fail
    refine (live_any _).mono ?_
    rintro e w2 ⟨rfl, b2⟩
    go_wp2_with fail
    refine (C1.out _).mono ?_
    rintro e w1 ⟨rfl, b0⟩
    obtain rfl := b0.symm
    go_wp2_with fail
    go_ret
    exact ⟨rfl, b2⟩
  | true =>
    rw [hx] at c0
    obtain ⟨h1, h2, h3⟩ := isName_len hx
    rw [← Lib.size_eq] at h2 h3
    have hp := Int.emod_nonneg n (show (s.size : Int) ≠ 0 by omega)
    obtain ⟨k, hk⟩ : ∃ k : Nat, n % (s.size : Int) = k := ⟨(n % s.size).toNat, by omega⟩
    have hkl : k < s.size := by
      have := Int.emod_lt_of_pos n (show (0 : Int) < s.size by omega)
      omega
    have c1 := fun W => name_any (s.extract 0 (k + 1)) W (by simp; omega)
    rw [← take_extract] at c1
    have hx1 : isName (s.data.toList.take (k + 1)) = true := isName_take hx (k + 1) (by omega) (by rw [← Lib.size_eq]; omega)
    change ∀ W, Calls _ _ _ W (fun e w' => e = .returned (.bool (isName (s.data.toList.take (k + 1)))) ∧ _) at c1
    rw [hx1, take_extract] at c1
    have c2 := fun W => name_any (s ++ ⟨#[97]⟩) W (by rw [ByteArray.size_append]; have : (ByteArray.mk #[97]).size = 1 := rfl; omega)
    rw [cat_data, show (ByteArray.mk #[97]).data.toList = [97] from rfl, isName_snoc hx, ← Lib.size_eq] at c2
    obtain ⟨k1, k2⟩ := ok_false _ _ h1
    have c3 := fun W => chars_any s W
    rw [k2] at c3
    have c4 := fun W => escape_any s W (by omega)
    rw [k1] at c4
    have hs' : (ByteArray.mk s.data.toList.toArray) = s := by simp
    rw [hs'] at c4
    have C0 := Lib.hid c0
    have C1 := Lib.hid c1
    have C2 := Lib.hid c2
    have C3 := Lib.hid c3
    have C4 := Lib.hid c4
    clear c0 c1 c2 c3 c4 hs' k1 k2 hx1 h1 hx
    go_enter Tryd.func8, Tryd.ntmps8
    go_wp2_with fail
    refine C0.out.mono ?_
    rintro e w1 ⟨rfl, b0⟩
    obtain rfl := b0.symm
    go_wp2_with fail
    refine (live_any _).mono ?_
    rintro e w2 ⟨rfl, b2⟩
    go_wp2_with fail
    refine (C1.out _).mono ?_
    rintro e w1 ⟨rfl, b0⟩
    obtain rfl := b0.symm
    go_wp2_with fail
    refine (C2.out _).mono ?_
    rintro e w1 ⟨rfl, b0⟩
    obtain rfl := b0.symm
    go_wp2_with fail
    refine (C3.out _).mono ?_
    rintro e w3 ⟨rfl, b3⟩
    go_wp2_with fail
    refine (C4.out _).mono ?_
    rintro e w4 ⟨rfl, b4⟩
    go_wp2_with fail
    go_ret
    exact ⟨rfl, below_then (below_then b2 (Nat.le_refl _) b3) (Nat.le_refl _) b4⟩
end Go.Proofs.YtmfeojhphdmodaaDoor
