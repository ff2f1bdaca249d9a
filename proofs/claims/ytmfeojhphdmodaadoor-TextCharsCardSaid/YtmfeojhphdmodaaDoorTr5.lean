/- The reference of Chars: what it answers, for every text, where the two tables of unicode/utf8 lie as its text lays them. -/
import Derived.Test.YtmfeojhphdmodaaDoorTx5
import Derived.Lib.ValidLaws
import Derived.Lib.LaidU8T
import Derived.Lib.LaidIn
import Derived.PinnedBridge
import Derived.Test.YtmfeojhphdmodaaDoorRows
namespace Go.Proofs.YtmfeojhphdmodaaDoor
open Go.RowKit
open Hb

theorem chars_invalid : ∀ (n : Nat) (l : List UInt8), l.length ≤ n → Lib.validD l = false → chars l = false
  | 0, l, h, hv => by
    obtain rfl := List.eq_nil_of_length_eq_zero (Nat.le_zero.1 h)
    cases hv
  | n + 1, l, h, hv => by
    by_cases hne : l = []
    · subst hne; cases hv
    · have hw := Lib.decodeL_width l
      have hl : 0 < l.length := List.length_pos_iff.2 hne
      rw [Lib.validD_step l hne] at hv
      rw [chars_step l hne]
      by_cases hb : (Lib.decodeL l).1 = 65533 ∧ (Lib.decodeL l).2 = 1
      · rw [if_pos (.inl hb)]
      · rw [if_neg hb] at hv
        have := chars_invalid n (l.drop (Lib.decodeL l).2) (by rw [List.length_drop]; omega) hv
        rw [this]
        split <;> rfl

theorem valid_at (s : ByteArray) (pos : Nat) (h : pos < s.size) : Lib.validD (s.data.toList.drop pos) =
    if (Utf8.decode s pos).1 = 65533 ∧ (Utf8.decode s pos).2 = 1 then false else Lib.validD (s.data.toList.drop (pos + (Utf8.decode s pos).2)) := by
  have hne : s.data.toList.drop pos ≠ [] := by
    intro h0
    have := congrArg List.length h0
    rw [List.length_drop, ← Lib.size_eq] at this
    simp at this
    omega
  rw [Lib.validD_step _ hne, Lib.decodeL_drop, List.drop_drop]

/-- The two tables, out of what the card lays. -/
theorem tabs_of {w : World} (h : laidMet Tryd.prog [("unicode/utf8.acceptRanges", Rows.laid_unicode_utf8_acceptRanges), ("unicode/utf8.first", Rows.laid_unicode_utf8_first)] w) : Lib.Utf8Tabs 0 1 w := by
  have h1 := Lib.laidMet.reads h (.tail _ (.head _))
  rw [show Rows.laid_unicode_utf8_first = Lib.firstData from Pinned.utf8First_eq] at h1
  exact utf8Tabs_of_readsT (U8Types.of196 Tryd.laysValid) ⟨by kernel_rfl, by kernel_rfl, by kernel_rfl, by kernel_rfl, by kernel_rfl, by kernel_rfl, by kernel_rfl⟩ h1 (Lib.laidMet.reads h (.head _))

set_option maxHeartbeats 2000000 in
theorem refChars_any (s : ByteArray) (w : World) (hs : s.size ≤ 9223372036854775807) (hT : Lib.Utf8Tabs 0 1 w) :
    Calls Tryd.prog 25 #[.string s] w fun e w' => e = .returned (.bool (chars s.data.toList)) ∧ Below w.heap.size w w' := by
  have hcall := Any.utf8_ValidString Tryd.laysValid s w hs hT
  change Calls Tryd.prog 39 _ _ _ at hcall
  cases hv : Lib.validD s.data.toList with
  | false =>
    rw [hv] at hcall
    have HF : Hid (chars s.data.toList = false) := chars_invalid _ _ (Nat.le_refl _) hv
    have C1 := Lib.hid hcall
    clear hcall hv hT
    go_enter Tryd.func25, Tryd.ntmps25
    go_wp2_with fail
    refine C1.out.mono ?_
    rintro e w1 ⟨rfl, b1⟩
    go_wp2_with fail
    go_ret
    exact ⟨by rw [HF.out]; rfl, b1⟩
  | true =>
    rw [hv] at hcall
    have C1 := Lib.hid hcall
    have HV := Lib.hid hv
    clear hcall hv hT
    go_enter Tryd.func25, Tryd.ntmps25
    go_wp2_with fail
    refine C1.out.mono ?_
    rintro e w1 ⟨rfl, b1⟩
    go_wp2_with fail
    go_loopw [10] (fun _ w' => ∃ pos : Nat, w' = w1.iter s pos ∧ Hid (chars s.data.toList = chars (s.data.toList.drop pos)) ∧ Hid (Lib.validD (s.data.toList.drop pos) = true)) (fun _ w' => s.size - w'.iterPos w1.heap.size)
    case atStart => exact ⟨0, rfl, rfl, HV⟩
    case round =>
      obtain ⟨pos, rfl, HC, HW⟩ := hrel
      have hfin : ∀ q, Below w.heap.size w (w1.iter s q) := fun q => b1.alloc b1.size _
      by_cases hp : pos < s.size
      · have hnx : ∀ ty, (Instr.next (.pointer (some ⟨w1.heap.size, 0, none⟩)) true ty).run Tryd.prog (w1.iter s pos) = _ := fun ty => run_next_any w1 s pos ty hp
        have hst := chars_at s pos hp
        have hvt := valid_at s pos hp
        rw [HW.out] at hvt
        have hwd : 1 ≤ (Utf8.decode s pos).2 := by rw [← Lib.decodeL_drop]; exact Lib.decodeL_width _
        have hle : (Utf8.decode s pos).1 ≤ 1114111 := by rw [← Lib.decodeL_drop]; exact Lib.decodeL_rune _
        by_cases hz : (Utf8.decode s pos).1 = 65533 ∧ (Utf8.decode s pos).2 = 1
        · rw [if_pos hz] at hvt
          cases hvt
        · rw [if_neg hz] at hvt
          have HW2 := Lib.hid hvt.symm
          clear hvt
          generalize (Utf8.decode s pos).1 = c at hnx hst hle hz
          generalize (Utf8.decode s pos).2 = wd at hnx hst hwd hz HW2
          by_cases hb : badR c
          · have HF : Hid (chars s.data.toList = false) := by show _ = _; rw [HC.out, hst, if_pos (.inr hb)]
            clear hst HC HW HW2 hz
            rcases hb with rfl | rfl | ⟨b1', b2', b3', b4'⟩
            · go_wp2_with fail
              go_ret
              exact ⟨by rw [HF.out]; rfl, hfin _⟩
            · go_wp2_with fail
              go_ret
              exact ⟨by rw [HF.out]; rfl, hfin _⟩
            · have c3 : decide ((c : Int) < 32) = true := by simp; omega
              have c4 : ((c : Int) != 9) = true := by rw [bne_iff_ne]; omega
              have c5 : ((c : Int) != 10) = true := by rw [bne_iff_ne]; omega
              have c6 : ((c : Int) != 13) = true := by rw [bne_iff_ne]; omega
              go_wp2_with fail
              go_ret
              exact ⟨by rw [HF.out]; rfl, hfin _⟩
          · rw [if_neg (by rintro (h | h); exact hz h; exact hb h)] at hst
            have HG : Hid (chars s.data.toList = chars (s.data.toList.drop (pos + wd))) := by show _ = _; rw [HC.out, hst]
            have c1 : ((c : Int) == 65534) = false := by rw [beq_eq_false_iff_ne]; intro h; exact hb (.inl (by omega))
            have c2 : ((c : Int) == 65535) = false := by rw [beq_eq_false_iff_ne]; intro h; exact hb (.inr (.inl (by omega)))
            clear hst HC HW hz
            by_cases hlt : c < 32
            · rcases (by by_cases a1 : c = 9; exact .inl a1; by_cases a2 : c = 10; exact .inr (.inl a2); by_cases a3 : c = 13; exact .inr (.inr a3); exact absurd (.inr (.inr ⟨hlt, a1, a2, a3⟩)) hb : c = 9 ∨ c = 10 ∨ c = 13) with rfl | rfl | rfl
              all_goals
                clear hb c1 c2 hlt
                go_wp2_with fail
                go_roundw
                case rel => exact ⟨pos + wd, rfl, HG, HW2⟩
                case measure => simp; omega
            · have c3 : decide ((c : Int) < 32) = false := by simp; omega
              clear hb
              go_wp2_with fail
              go_roundw
              case rel => exact ⟨pos + wd, rfl, HG, HW2⟩
              case measure => simp; omega
      · have hnx : ∀ ty, (Instr.next (.pointer (some ⟨w1.heap.size, 0, none⟩)) true ty).run Tryd.prog (w1.iter s pos) = _ := fun ty => run_next_end w1 s pos ty hp
        have HF : Hid (chars s.data.toList = true) := by show _ = _; rw [HC.out, List.drop_eq_nil_of_le (by rw [← Lib.size_eq]; omega)]; rfl
        clear HC HW
        go_wp2
        go_ret
        exact ⟨by rw [HF.out]; rfl, hfin _⟩
end Go.Proofs.YtmfeojhphdmodaaDoor
