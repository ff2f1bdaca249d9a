/- text.Chars: what it answers, for every text. -/
import Derived.Test.YtpjaopcgoaannaaGreatDoorSh
import Derived.Test.YtpjaopcgoaannaaGreatDoorCut
import Derived.Test.YtpjaopcgoaannaaGreatDoorTc
import Derived.Lib.TrimUEq
namespace Go.Proofs.YtpjaopcgoaannaaGreatDoor
open Go.RowKit
open Hb

theorem chars_at (s : ByteArray) (pos : Nat) (h : pos < s.size) : chars (s.data.toList.drop pos) =
    if ((Utf8.decode s pos).1 = 65533 ∧ (Utf8.decode s pos).2 = 1) ∨ badR (Utf8.decode s pos).1 then false else chars (s.data.toList.drop (pos + (Utf8.decode s pos).2)) := by
  have hne : s.data.toList.drop pos ≠ [] := by
    intro h0
    have := congrArg List.length h0
    rw [List.length_drop, ← Lib.size_eq] at this
    simp at this
    omega
  rw [chars_step _ hne, Lib.decodeL_drop, List.drop_drop]

set_option maxHeartbeats 2000000 in
theorem chars_any (s : ByteArray) (w : World) :
    Calls Tryz.prog 50 #[.string s] w fun e w' => e = .returned (.bool (chars s.data.toList)) ∧ Below w.heap.size w w' := by
  go_enter Tryz.func50, Tryz.ntmps50
  go_wp2_with fail
  go_loopw [4] (fun _ w' => ∃ pos : Nat, w' = w.iter s pos ∧ Hid (chars s.data.toList = chars (s.data.toList.drop pos))) (fun _ w' => s.size - w'.iterPos w.heap.size)
  case atStart => exact ⟨0, rfl, rfl⟩
  case round =>
    obtain ⟨pos, rfl, HC⟩ := hrel
    by_cases hp : pos < s.size
    · have hnx : ∀ ty, (Instr.next (.pointer (some ⟨w.heap.size, 0, none⟩)) true ty).run Tryz.prog (w.iter s pos) = _ := fun ty => run_next_any w s pos ty hp
      have hst := chars_at s pos hp
      have hwd : 1 ≤ (Utf8.decode s pos).2 := by rw [← Lib.decodeL_drop]; exact Lib.decodeL_width _
      have hle : (Utf8.decode s pos).1 ≤ 1114111 := by rw [← Lib.decodeL_drop]; exact Lib.decodeL_rune _
      have hpre : (Utf8.decode s pos).1 = 65533 → ∀ W, Calls Tryz.prog 66 #[.string (s.extract pos s.size), .string ⟨#[239, 191, 189]⟩] W fun e w' => e = .returned (.bool (decide ((Utf8.decode s pos).2 ≠ 1))) ∧ w' = W := fun hc W => by
        have h := Tryz.strings_HasPrefix (s.extract pos s.size) ⟨#[239, 191, 189]⟩ W
        have hne : s.data.toList.drop pos ≠ [] := by
          intro h0
          have := congrArg List.length h0
          rw [List.length_drop, ← Lib.size_eq] at this
          simp at this
          omega
        have e := repl_prefix (s.data.toList.drop pos) hne (by rw [Lib.decodeL_drop]; exact hc)
        rw [Lib.decodeL_drop] at e
        rw [← drop_extract, show (ByteArray.mk (s.data.toList.drop pos).toArray).data.toList = s.data.toList.drop pos from rfl, e] at h
        rw [← drop_extract]
        exact h
      generalize (Utf8.decode s pos).1 = c at hnx hst hle hpre
      generalize (Utf8.decode s pos).2 = wd at hnx hst hwd hpre
      by_cases h1 : c = 65533
      · subst h1
        have hpre2 := hpre rfl
        clear hpre
        by_cases h2 : wd = 1
        · subst h2
          have HF : Hid (chars s.data.toList = false) := by show _ = _; rw [HC.out, hst, if_pos (.inl ⟨rfl, rfl⟩)]
          have P1 := Lib.hid hpre2
          clear hpre2 hst
          go_wp2_with (go_at_call 66; refine (P1.out _).mono ?_; rintro e w1 ⟨rfl, hw1⟩; obtain rfl := hw1.symm)
          go_ret
          exact ⟨by rw [HF.out]; rfl, (Below.refl _ _).alloc (Nat.le_refl _) _⟩
        · rw [if_neg (by simp [h2, badR])] at hst
          have P1 := Lib.hid hpre2
          have hw2 : decide (wd ≠ 1) = true := by simpa using h2
          rw [hw2] at P1
          have hst := Lib.hid hst
          clear hpre2 h2 hw2
          go_wp2_with (go_at_call 66; refine (P1.out _).mono ?_; rintro e w1 ⟨rfl, hw1⟩; obtain rfl := hw1.symm)
          go_roundw
          case rel => exact ⟨pos + wd, rfl, by show _ = _; rw [HC.out, hst.out]⟩
          case measure => simp; omega
      · clear hpre
        have hc0 : ((c : Int) == 65533) = false := by rw [beq_eq_false_iff_ne]; omega
        by_cases hb : badR c
        · have HF : Hid (chars s.data.toList = false) := by show _ = _; rw [HC.out, hst, if_pos (.inr hb)]
          clear hst
          rcases hb with rfl | rfl | ⟨b1, b2, b3, b4⟩
          · go_wp2_with fail
            go_ret
            exact ⟨by rw [HF.out]; rfl, (Below.refl _ _).alloc (Nat.le_refl _) _⟩
          · go_wp2_with fail
            go_ret
            exact ⟨by rw [HF.out]; rfl, (Below.refl _ _).alloc (Nat.le_refl _) _⟩
          · have c1 : ((c : Int) == 65534) = false := by rw [beq_eq_false_iff_ne]; omega
            have c2 : ((c : Int) == 65535) = false := by rw [beq_eq_false_iff_ne]; omega
            have c3 : decide ((c : Int) < 32) = true := by simp; omega
            have c4 : ((c : Int) != 9) = true := by rw [bne_iff_ne]; omega
            have c5 : ((c : Int) != 10) = true := by rw [bne_iff_ne]; omega
            have c6 : ((c : Int) != 13) = true := by rw [bne_iff_ne]; omega
            go_wp2_with fail
            go_ret
            exact ⟨by rw [HF.out]; rfl, (Below.refl _ _).alloc (Nat.le_refl _) _⟩
        · rw [if_neg (by simp [h1, hb])] at hst
          have hst := Lib.hid hst
          have c1 : ((c : Int) == 65534) = false := by rw [beq_eq_false_iff_ne]; intro h; exact hb (.inl (by omega))
          have c2 : ((c : Int) == 65535) = false := by rw [beq_eq_false_iff_ne]; intro h; exact hb (.inr (.inl (by omega)))
          by_cases hlt : c < 32
          · rcases (by by_cases a1 : c = 9; exact .inl a1; by_cases a2 : c = 10; exact .inr (.inl a2); by_cases a3 : c = 13; exact .inr (.inr a3); exact absurd (.inr (.inr ⟨hlt, a1, a2, a3⟩)) hb : c = 9 ∨ c = 10 ∨ c = 13) with rfl | rfl | rfl
            all_goals
              clear hb c1 c2 hc0 h1 hlt
              go_wp2_with fail
              go_roundw
              case rel => exact ⟨pos + wd, rfl, by show _ = _; rw [HC.out, hst.out]⟩
              case measure => simp; omega
          · have c3 : decide ((c : Int) < 32) = false := by simp; omega
            clear hb
            go_wp2_with fail
            go_roundw
            case rel => exact ⟨pos + wd, rfl, by show _ = _; rw [HC.out, hst.out]⟩
            case measure => simp; omega
    · have hnx : ∀ ty, (Instr.next (.pointer (some ⟨w.heap.size, 0, none⟩)) true ty).run Tryz.prog (w.iter s pos) = _ := fun ty => run_next_end w s pos ty hp
      have HF : Hid (chars s.data.toList = true) := by show _ = _; rw [HC.out, List.drop_eq_nil_of_le (by rw [← Lib.size_eq]; omega)]; rfl
      go_wp2
      go_ret
      exact ⟨by rw [HF.out]; rfl, (Below.refl _ _).alloc (Nat.le_refl _) _⟩
end Go.Proofs.YtpjaopcgoaannaaGreatDoor
