/- jid.part: what it answers, for every text. -/
import Derived.Test.YtpjaopcgoaannaaGreatDoorChecked
import Derived.Test.YtpjaopcgoaannaaGreatDoorHb
import Derived.Handy
import Derived.Lib.Hide
import Derived.Lib.TrimUEq
namespace Go.Proofs.YtpjaopcgoaannaaGreatDoor
open Go.RowKit
open Hb

def partN (n : Nat) : Bool := decide ((97 ≤ n ∧ n < 123) ∨ (65 ≤ n ∧ n < 91) ∨ (48 ≤ n ∧ n < 58) ∨ n = 45 ∨ n = 95 ∨ n = 46)
def partL (l : List UInt8) : Bool := l.all fun c => partN c.toNat
/-- A part of an address. -/
def isPart (l : List UInt8) : Bool := partL l && decide (1 ≤ l.length ∧ l.length ≤ 64)

theorem or32 : ∀ n, n < 256 → Go.bits .or .u8 ((n : Nat) : Int) 32 = ((if n / 32 % 2 = 1 then n else n + 32 : Nat) : Int) := by decide +kernel
theorem partL_at (s : ByteArray) (k : Nat) (h : k < s.size) : partL (s.data.toList.drop k) = (partN s[k].toNat && partL (s.data.toList.drop (k + 1))) := by
  rw [show s.data.toList.drop k = s[k] :: s.data.toList.drop (k + 1) from List.drop_eq_getElem_cons (by simpa using h)]
  rfl
theorem clsP (n : Nat) : n < 45 ∨ (45 ≤ n ∧ n < 46) ∨ (46 ≤ n ∧ n < 47) ∨ (47 ≤ n ∧ n < 48) ∨ (48 ≤ n ∧ n < 58) ∨ (58 ≤ n ∧ n < 65) ∨ (65 ≤ n ∧ n < 91) ∨ (91 ≤ n ∧ n < 95) ∨ (95 ≤ n ∧ n < 96) ∨ (96 ≤ n ∧ n < 97) ∨ (97 ≤ n ∧ n < 123) ∨ 123 ≤ n := by omega

set_option maxHeartbeats 8000000 in
theorem part_any (s : ByteArray) (w : World) (hs : s.size ≤ 9223372036854775806) :
    Calls Tryz.prog 63 #[.string s] w fun e w' => e = .returned (.bool (isPart s.data.toList)) ∧ w' = w := by
  go_enter Tryz.func63, Tryz.ntmps63
  go_wp2_with fail
  go_loop [7] (fun i => ∃ k : Nat, k ≤ s.size ∧ i = .int .i64 k ∧ Hid (partL s.data.toList = partL (s.data.toList.drop k))) (fun i => s.size - (intOf i).toNat)
  case atStart => exact ⟨0, Nat.zero_le _, rfl, rfl⟩
  case round =>
    obtain ⟨k, hk, rfl, HC⟩ := hrel
    by_cases hlt : k < s.size
    · have hst := partL_at s k hlt
      have hc256 := s[k].toNat_lt
      have hor := or32 s[k].toNat hc256
      obtain ⟨y, hy⟩ : ∃ y : Nat, (if s[k].toNat / 32 % 2 = 1 then s[k].toNat else s[k].toNat + 32) = y := ⟨_, rfl⟩
      rw [hy] at hor
      have HY := Lib.hid hy
      clear hy
      rcases clsP s[k].toNat with h | h | h | h | h | h | h | h | h | h | h | h
      · have hyb : y < 97 := by
          have hy := HY.out
          split at hy <;> omega
        have a1 : decide ((y : Int) < 97) = true := by simp; omega
        have a2 : decide ((122 : Int) < (y : Int)) = false := by simp; omega
        have d1 : decide ((s[k].toNat : Int) < 48) = true := by simp; omega
        have d2 : decide ((57 : Int) < (s[k].toNat : Int)) = false := by simp; omega
        have n45 : ((s[k].toNat : Int) != 45) = true := by rw [bne_iff_ne]; omega
        have n95 : ((s[k].toNat : Int) != 95) = true := by rw [bne_iff_ne]; omega
        have n46 : ((s[k].toNat : Int) != 46) = true := by rw [bne_iff_ne]; omega
        have HF : Hid (isPart s.data.toList = false) := by
          show _ = _
          unfold isPart
          rw [HC.out, hst, show partN s[k].toNat = false by unfold partN; rw [decide_eq_false_iff_not]; omega]
          rfl
        clear hst HC HY
        go_wp2_with fail
        go_ret
        exact ⟨by rw [HF.out]; rfl, rfl⟩
      · have hyb : y < 97 := by
          have hy := HY.out
          split at hy <;> omega
        have a1 : decide ((y : Int) < 97) = true := by simp; omega
        have a2 : decide ((122 : Int) < (y : Int)) = false := by simp; omega
        have d1 : decide ((s[k].toNat : Int) < 48) = true := by simp; omega
        have d2 : decide ((57 : Int) < (s[k].toNat : Int)) = false := by simp; omega
        have n45 : ((s[k].toNat : Int) != 45) = false := by rw [bne_eq_false_iff_eq]; omega
        have n95 : ((s[k].toNat : Int) != 95) = true := by rw [bne_iff_ne]; omega
        have n46 : ((s[k].toNat : Int) != 46) = true := by rw [bne_iff_ne]; omega
        have HG : Hid (partL s.data.toList = partL (s.data.toList.drop (k + 1))) := by
          show _ = _
          rw [HC.out, hst, show partN s[k].toNat = true by unfold partN; rw [decide_eq_true_eq]; omega]
          rfl
        clear hst HC HY
        go_wp2_with fail
        go_round
        case rel => exact ⟨k + 1, by omega, by go_num, HG⟩
        case measure => simp [intOf]; omega
      · have hyb : y < 97 := by
          have hy := HY.out
          split at hy <;> omega
        have a1 : decide ((y : Int) < 97) = true := by simp; omega
        have a2 : decide ((122 : Int) < (y : Int)) = false := by simp; omega
        have d1 : decide ((s[k].toNat : Int) < 48) = true := by simp; omega
        have d2 : decide ((57 : Int) < (s[k].toNat : Int)) = false := by simp; omega
        have n45 : ((s[k].toNat : Int) != 45) = true := by rw [bne_iff_ne]; omega
        have n95 : ((s[k].toNat : Int) != 95) = true := by rw [bne_iff_ne]; omega
        have n46 : ((s[k].toNat : Int) != 46) = false := by rw [bne_eq_false_iff_eq]; omega
        have HG : Hid (partL s.data.toList = partL (s.data.toList.drop (k + 1))) := by
          show _ = _
          rw [HC.out, hst, show partN s[k].toNat = true by unfold partN; rw [decide_eq_true_eq]; omega]
          rfl
        clear hst HC HY
        go_wp2_with fail
        go_round
        case rel => exact ⟨k + 1, by omega, by go_num, HG⟩
        case measure => simp [intOf]; omega
      · have hyb : y < 97 := by
          have hy := HY.out
          split at hy <;> omega
        have a1 : decide ((y : Int) < 97) = true := by simp; omega
        have a2 : decide ((122 : Int) < (y : Int)) = false := by simp; omega
        have d1 : decide ((s[k].toNat : Int) < 48) = true := by simp; omega
        have d2 : decide ((57 : Int) < (s[k].toNat : Int)) = false := by simp; omega
        have n45 : ((s[k].toNat : Int) != 45) = true := by rw [bne_iff_ne]; omega
        have n95 : ((s[k].toNat : Int) != 95) = true := by rw [bne_iff_ne]; omega
        have n46 : ((s[k].toNat : Int) != 46) = true := by rw [bne_iff_ne]; omega
        have HF : Hid (isPart s.data.toList = false) := by
          show _ = _
          unfold isPart
          rw [HC.out, hst, show partN s[k].toNat = false by unfold partN; rw [decide_eq_false_iff_not]; omega]
          rfl
        clear hst HC HY
        go_wp2_with fail
        go_ret
        exact ⟨by rw [HF.out]; rfl, rfl⟩
      · have hyb : y < 97 := by
          have hy := HY.out
          split at hy <;> omega
        have a1 : decide ((y : Int) < 97) = true := by simp; omega
        have a2 : decide ((122 : Int) < (y : Int)) = false := by simp; omega
        have d1 : decide ((s[k].toNat : Int) < 48) = false := by simp; omega
        have d2 : decide ((57 : Int) < (s[k].toNat : Int)) = false := by simp; omega
        have n45 : ((s[k].toNat : Int) != 45) = true := by rw [bne_iff_ne]; omega
        have n95 : ((s[k].toNat : Int) != 95) = true := by rw [bne_iff_ne]; omega
        have n46 : ((s[k].toNat : Int) != 46) = true := by rw [bne_iff_ne]; omega
        have HG : Hid (partL s.data.toList = partL (s.data.toList.drop (k + 1))) := by
          show _ = _
          rw [HC.out, hst, show partN s[k].toNat = true by unfold partN; rw [decide_eq_true_eq]; omega]
          rfl
        clear hst HC HY
        go_wp2_with fail
        go_round
        case rel => exact ⟨k + 1, by omega, by go_num, HG⟩
        case measure => simp [intOf]; omega
      · have hyb : y < 97 := by
          have hy := HY.out
          split at hy <;> omega
        have a1 : decide ((y : Int) < 97) = true := by simp; omega
        have a2 : decide ((122 : Int) < (y : Int)) = false := by simp; omega
        have d1 : decide ((s[k].toNat : Int) < 48) = false := by simp; omega
        have d2 : decide ((57 : Int) < (s[k].toNat : Int)) = true := by simp; omega
        have n45 : ((s[k].toNat : Int) != 45) = true := by rw [bne_iff_ne]; omega
        have n95 : ((s[k].toNat : Int) != 95) = true := by rw [bne_iff_ne]; omega
        have n46 : ((s[k].toNat : Int) != 46) = true := by rw [bne_iff_ne]; omega
        have HF : Hid (isPart s.data.toList = false) := by
          show _ = _
          unfold isPart
          rw [HC.out, hst, show partN s[k].toNat = false by unfold partN; rw [decide_eq_false_iff_not]; omega]
          rfl
        clear hst HC HY
        go_wp2_with fail
        go_ret
        exact ⟨by rw [HF.out]; rfl, rfl⟩
      · have hyb : 97 ≤ y ∧ y ≤ 122 := by
          have hy := HY.out
          split at hy <;> omega
        have a1 : decide ((y : Int) < 97) = false := by simp; omega
        have a2 : decide ((122 : Int) < (y : Int)) = false := by simp; omega
        have d1 : decide ((s[k].toNat : Int) < 48) = false := by simp; omega
        have d2 : decide ((57 : Int) < (s[k].toNat : Int)) = true := by simp; omega
        have n45 : ((s[k].toNat : Int) != 45) = true := by rw [bne_iff_ne]; omega
        have n95 : ((s[k].toNat : Int) != 95) = true := by rw [bne_iff_ne]; omega
        have n46 : ((s[k].toNat : Int) != 46) = true := by rw [bne_iff_ne]; omega
        have HG : Hid (partL s.data.toList = partL (s.data.toList.drop (k + 1))) := by
          show _ = _
          rw [HC.out, hst, show partN s[k].toNat = true by unfold partN; rw [decide_eq_true_eq]; omega]
          rfl
        clear hst HC HY
        go_wp2_with fail
        go_round
        case rel => exact ⟨k + 1, by omega, by go_num, HG⟩
        case measure => simp [intOf]; omega
      · have hyb : 122 < y := by
          have hy := HY.out
          split at hy <;> omega
        have a1 : decide ((y : Int) < 97) = false := by simp; omega
        have a2 : decide ((122 : Int) < (y : Int)) = true := by simp; omega
        have d1 : decide ((s[k].toNat : Int) < 48) = false := by simp; omega
        have d2 : decide ((57 : Int) < (s[k].toNat : Int)) = true := by simp; omega
        have n45 : ((s[k].toNat : Int) != 45) = true := by rw [bne_iff_ne]; omega
        have n95 : ((s[k].toNat : Int) != 95) = true := by rw [bne_iff_ne]; omega
        have n46 : ((s[k].toNat : Int) != 46) = true := by rw [bne_iff_ne]; omega
        have HF : Hid (isPart s.data.toList = false) := by
          show _ = _
          unfold isPart
          rw [HC.out, hst, show partN s[k].toNat = false by unfold partN; rw [decide_eq_false_iff_not]; omega]
          rfl
        clear hst HC HY
        go_wp2_with fail
        go_ret
        exact ⟨by rw [HF.out]; rfl, rfl⟩
      · have hyb : 122 < y := by
          have hy := HY.out
          split at hy <;> omega
        have a1 : decide ((y : Int) < 97) = false := by simp; omega
        have a2 : decide ((122 : Int) < (y : Int)) = true := by simp; omega
        have d1 : decide ((s[k].toNat : Int) < 48) = false := by simp; omega
        have d2 : decide ((57 : Int) < (s[k].toNat : Int)) = true := by simp; omega
        have n45 : ((s[k].toNat : Int) != 45) = true := by rw [bne_iff_ne]; omega
        have n95 : ((s[k].toNat : Int) != 95) = false := by rw [bne_eq_false_iff_eq]; omega
        have n46 : ((s[k].toNat : Int) != 46) = true := by rw [bne_iff_ne]; omega
        have HG : Hid (partL s.data.toList = partL (s.data.toList.drop (k + 1))) := by
          show _ = _
          rw [HC.out, hst, show partN s[k].toNat = true by unfold partN; rw [decide_eq_true_eq]; omega]
          rfl
        clear hst HC HY
        go_wp2_with fail
        go_round
        case rel => exact ⟨k + 1, by omega, by go_num, HG⟩
        case measure => simp [intOf]; omega
      · have hyb : y < 97 := by
          have hy := HY.out
          split at hy <;> omega
        have a1 : decide ((y : Int) < 97) = true := by simp; omega
        have a2 : decide ((122 : Int) < (y : Int)) = false := by simp; omega
        have d1 : decide ((s[k].toNat : Int) < 48) = false := by simp; omega
        have d2 : decide ((57 : Int) < (s[k].toNat : Int)) = true := by simp; omega
        have n45 : ((s[k].toNat : Int) != 45) = true := by rw [bne_iff_ne]; omega
        have n95 : ((s[k].toNat : Int) != 95) = true := by rw [bne_iff_ne]; omega
        have n46 : ((s[k].toNat : Int) != 46) = true := by rw [bne_iff_ne]; omega
        have HF : Hid (isPart s.data.toList = false) := by
          show _ = _
          unfold isPart
          rw [HC.out, hst, show partN s[k].toNat = false by unfold partN; rw [decide_eq_false_iff_not]; omega]
          rfl
        clear hst HC HY
        go_wp2_with fail
        go_ret
        exact ⟨by rw [HF.out]; rfl, rfl⟩
      · have hyb : 97 ≤ y ∧ y ≤ 122 := by
          have hy := HY.out
          split at hy <;> omega
        have a1 : decide ((y : Int) < 97) = false := by simp; omega
        have a2 : decide ((122 : Int) < (y : Int)) = false := by simp; omega
        have d1 : decide ((s[k].toNat : Int) < 48) = false := by simp; omega
        have d2 : decide ((57 : Int) < (s[k].toNat : Int)) = true := by simp; omega
        have n45 : ((s[k].toNat : Int) != 45) = true := by rw [bne_iff_ne]; omega
        have n95 : ((s[k].toNat : Int) != 95) = true := by rw [bne_iff_ne]; omega
        have n46 : ((s[k].toNat : Int) != 46) = true := by rw [bne_iff_ne]; omega
        have HG : Hid (partL s.data.toList = partL (s.data.toList.drop (k + 1))) := by
          show _ = _
          rw [HC.out, hst, show partN s[k].toNat = true by unfold partN; rw [decide_eq_true_eq]; omega]
          rfl
        clear hst HC HY
        go_wp2_with fail
        go_round
        case rel => exact ⟨k + 1, by omega, by go_num, HG⟩
        case measure => simp [intOf]; omega
      · have hyb : 122 < y := by
          have hy := HY.out
          split at hy <;> omega
        have a1 : decide ((y : Int) < 97) = false := by simp; omega
        have a2 : decide ((122 : Int) < (y : Int)) = true := by simp; omega
        have d1 : decide ((s[k].toNat : Int) < 48) = false := by simp; omega
        have d2 : decide ((57 : Int) < (s[k].toNat : Int)) = true := by simp; omega
        have n45 : ((s[k].toNat : Int) != 45) = true := by rw [bne_iff_ne]; omega
        have n95 : ((s[k].toNat : Int) != 95) = true := by rw [bne_iff_ne]; omega
        have n46 : ((s[k].toNat : Int) != 46) = true := by rw [bne_iff_ne]; omega
        have HF : Hid (isPart s.data.toList = false) := by
          show _ = _
          unfold isPart
          rw [HC.out, hst, show partN s[k].toNat = false by unfold partN; rw [decide_eq_false_iff_not]; omega]
          rfl
        clear hst HC HY
        go_wp2_with fail
        go_ret
        exact ⟨by rw [HF.out]; rfl, rfl⟩
    · have HF : Hid (partL s.data.toList = true) := by show _ = _; rw [HC.out, List.drop_eq_nil_of_le (by rw [← Lib.size_eq]; omega)]; rfl
      by_cases h0 : s.size = 0
      · have hn : s.data.toList = [] := List.eq_nil_of_length_eq_zero (by rw [← Lib.size_eq]; exact h0)
        have HI : Hid (isPart s.data.toList = false) := by show _ = _; rw [hn]; rfl
        obtain rfl : s = ⟨#[]⟩ := by
          have := congrArg (fun l : List UInt8 => ByteArray.mk l.toArray) hn
          exact this
        clear h0 hn
        go_wp2_with fail
        go_ret
        exact ⟨by rw [HI.out]; rfl, rfl⟩
      · have hne : s.toList.isEmpty = false := by
          rw [ByteArray.toList_eq]
          cases hl : s.data.toList with
          | nil => exact absurd (by rw [Lib.size_eq, hl]; rfl) h0
          | cons _ _ => rfl
        by_cases h64 : s.size ≤ 64
        · have HI : Hid (isPart s.data.toList = true) := by show _ = _; unfold isPart; rw [HF.out, ← Lib.size_eq]; simp; omega
          have hle : decide ((s.size : Int) ≤ 64) = true := by simp; omega
          clear h0
          go_wp2_with fail
          go_ret
          exact ⟨by rw [HI.out]; rfl, rfl⟩
        · have HI : Hid (isPart s.data.toList = false) := by show _ = _; unfold isPart; rw [HF.out, ← Lib.size_eq]; simp; omega
          have hle : decide ((s.size : Int) ≤ 64) = false := by simp; omega
          clear h0
          go_wp2_with fail
          go_ret
          exact ⟨by rw [HI.out]; rfl, rfl⟩
end Go.Proofs.YtpjaopcgoaannaaGreatDoor
