/- The references of Name and Space: what they answer, for every text. -/
import Derived.Test.YtmfeojhphdmodaaDoorTn
import Derived.Test.YtmfeojhphdmodaaDoorTx1
namespace Go.Proofs.YtmfeojhphdmodaaDoor
open Go.RowKit
open Hb

set_option maxHeartbeats 8000000 in
theorem refName_any (s : ByteArray) (w : World) (hs : s.size ≤ 9223372036854775806) :
    Calls Tryd.prog 23 #[.string s] w fun e w' => e = .returned (.bool (isName s.data.toList)) ∧ w' = w := by
  go_enter Tryd.func23, Tryd.ntmps23
  go_wp2_with fail
  go_loop [3] (fun i => ∃ k : Nat, k ≤ s.size ∧ i = .int .i64 k ∧ Hid (okFrom true s.data.toList = okFrom (k == 0) (s.data.toList.drop k))) (fun i => s.size - (intOf i).toNat)
  case atStart => exact ⟨0, Nat.zero_le _, rfl, rfl⟩
  case round =>
    obtain ⟨k, hk, rfl, HC⟩ := hrel
    by_cases hlt : k < s.size
    · have hst := okFrom_at s k hlt (k == 0)
      have hc256 := s[k].toNat_lt
      rcases (by omega : k < 1 ∨ 0 < k) with hk0 | hk0
      · have hkb : (k == 0) = true := by simp; omega
        rw [hkb] at hst
        have hz : ((k : Int) == 0) = true := by rw [beq_iff_eq]; omega
        have hz1 : (k + 1 == 0) = false := by simp
        rcases cls s[k].toNat with h | h | h | h | h | h | h | h | h | h | h | h | h
        · have e95 : ((s[k].toNat : Int) == 95) = false := by rw [beq_eq_false_iff_ne]; omega
          have e45 : ((s[k].toNat : Int) == 45) = false := by rw [beq_eq_false_iff_ne]; omega
          have e46 : ((s[k].toNat : Int) == 46) = false := by rw [beq_eq_false_iff_ne]; omega
          have e58 : ((s[k].toNat : Int) == 58) = false := by rw [beq_eq_false_iff_ne]; omega
          have dz : decide ((0 : Int) < (k : Int)) = false := by simp; omega
          have g97 : decide ((97 : Int) ≤ (s[k].toNat : Int)) = false := by simp; omega
          have g65 : decide ((65 : Int) ≤ (s[k].toNat : Int)) = false := by simp; omega
          have g48 : decide ((48 : Int) ≤ (s[k].toNat : Int)) = false := by simp; omega
          have l122 : decide ((s[k].toNat : Int) ≤ 122) = true := by simp; omega
          have l90 : decide ((s[k].toNat : Int) ≤ 90) = true := by simp; omega
          have l57 : decide ((s[k].toNat : Int) ≤ 57) = true := by simp; omega
          have HF : Hid (okFrom true s.data.toList = false) := by show _ = _; rw [HC.out, hkb, hst]; simp [firstN, laterN]; omega
          clear hst hkb HC hz1
          go_wp2_with fail
          go_ret
          exact ⟨by unfold isName; rw [HF.out]; rfl, rfl⟩
        · have e95 : ((s[k].toNat : Int) == 95) = false := by rw [beq_eq_false_iff_ne]; omega
          have e45 : ((s[k].toNat : Int) == 45) = true := by rw [beq_iff_eq]; omega
          have e46 : ((s[k].toNat : Int) == 46) = false := by rw [beq_eq_false_iff_ne]; omega
          have e58 : ((s[k].toNat : Int) == 58) = false := by rw [beq_eq_false_iff_ne]; omega
          have dz : decide ((0 : Int) < (k : Int)) = false := by simp; omega
          have g97 : decide ((97 : Int) ≤ (s[k].toNat : Int)) = false := by simp; omega
          have g65 : decide ((65 : Int) ≤ (s[k].toNat : Int)) = false := by simp; omega
          have g48 : decide ((48 : Int) ≤ (s[k].toNat : Int)) = false := by simp; omega
          have l122 : decide ((s[k].toNat : Int) ≤ 122) = true := by simp; omega
          have l90 : decide ((s[k].toNat : Int) ≤ 90) = true := by simp; omega
          have l57 : decide ((s[k].toNat : Int) ≤ 57) = true := by simp; omega
          have HF : Hid (okFrom true s.data.toList = false) := by show _ = _; rw [HC.out, hkb, hst]; simp [firstN, laterN]; omega
          clear hst hkb HC hz1
          go_wp2_with fail
          go_ret
          exact ⟨by unfold isName; rw [HF.out]; rfl, rfl⟩
        · have e95 : ((s[k].toNat : Int) == 95) = false := by rw [beq_eq_false_iff_ne]; omega
          have e45 : ((s[k].toNat : Int) == 45) = false := by rw [beq_eq_false_iff_ne]; omega
          have e46 : ((s[k].toNat : Int) == 46) = true := by rw [beq_iff_eq]; omega
          have e58 : ((s[k].toNat : Int) == 58) = false := by rw [beq_eq_false_iff_ne]; omega
          have dz : decide ((0 : Int) < (k : Int)) = false := by simp; omega
          have g97 : decide ((97 : Int) ≤ (s[k].toNat : Int)) = false := by simp; omega
          have g65 : decide ((65 : Int) ≤ (s[k].toNat : Int)) = false := by simp; omega
          have g48 : decide ((48 : Int) ≤ (s[k].toNat : Int)) = false := by simp; omega
          have l122 : decide ((s[k].toNat : Int) ≤ 122) = true := by simp; omega
          have l90 : decide ((s[k].toNat : Int) ≤ 90) = true := by simp; omega
          have l57 : decide ((s[k].toNat : Int) ≤ 57) = true := by simp; omega
          have HF : Hid (okFrom true s.data.toList = false) := by show _ = _; rw [HC.out, hkb, hst]; simp [firstN, laterN]; omega
          clear hst hkb HC hz1
          go_wp2_with fail
          go_ret
          exact ⟨by unfold isName; rw [HF.out]; rfl, rfl⟩
        · have e95 : ((s[k].toNat : Int) == 95) = false := by rw [beq_eq_false_iff_ne]; omega
          have e45 : ((s[k].toNat : Int) == 45) = false := by rw [beq_eq_false_iff_ne]; omega
          have e46 : ((s[k].toNat : Int) == 46) = false := by rw [beq_eq_false_iff_ne]; omega
          have e58 : ((s[k].toNat : Int) == 58) = false := by rw [beq_eq_false_iff_ne]; omega
          have dz : decide ((0 : Int) < (k : Int)) = false := by simp; omega
          have g97 : decide ((97 : Int) ≤ (s[k].toNat : Int)) = false := by simp; omega
          have g65 : decide ((65 : Int) ≤ (s[k].toNat : Int)) = false := by simp; omega
          have g48 : decide ((48 : Int) ≤ (s[k].toNat : Int)) = false := by simp; omega
          have l122 : decide ((s[k].toNat : Int) ≤ 122) = true := by simp; omega
          have l90 : decide ((s[k].toNat : Int) ≤ 90) = true := by simp; omega
          have l57 : decide ((s[k].toNat : Int) ≤ 57) = true := by simp; omega
          have HF : Hid (okFrom true s.data.toList = false) := by show _ = _; rw [HC.out, hkb, hst]; simp [firstN, laterN]; omega
          clear hst hkb HC hz1
          go_wp2_with fail
          go_ret
          exact ⟨by unfold isName; rw [HF.out]; rfl, rfl⟩
        · have e95 : ((s[k].toNat : Int) == 95) = false := by rw [beq_eq_false_iff_ne]; omega
          have e45 : ((s[k].toNat : Int) == 45) = false := by rw [beq_eq_false_iff_ne]; omega
          have e46 : ((s[k].toNat : Int) == 46) = false := by rw [beq_eq_false_iff_ne]; omega
          have e58 : ((s[k].toNat : Int) == 58) = false := by rw [beq_eq_false_iff_ne]; omega
          have dz : decide ((0 : Int) < (k : Int)) = false := by simp; omega
          have g97 : decide ((97 : Int) ≤ (s[k].toNat : Int)) = false := by simp; omega
          have g65 : decide ((65 : Int) ≤ (s[k].toNat : Int)) = false := by simp; omega
          have g48 : decide ((48 : Int) ≤ (s[k].toNat : Int)) = true := by simp; omega
          have l122 : decide ((s[k].toNat : Int) ≤ 122) = true := by simp; omega
          have l90 : decide ((s[k].toNat : Int) ≤ 90) = true := by simp; omega
          have l57 : decide ((s[k].toNat : Int) ≤ 57) = true := by simp; omega
          have HF : Hid (okFrom true s.data.toList = false) := by show _ = _; rw [HC.out, hkb, hst]; simp [firstN, laterN]; omega
          clear hst hkb HC hz1
          go_wp2_with fail
          go_ret
          exact ⟨by unfold isName; rw [HF.out]; rfl, rfl⟩
        · have e95 : ((s[k].toNat : Int) == 95) = false := by rw [beq_eq_false_iff_ne]; omega
          have e45 : ((s[k].toNat : Int) == 45) = false := by rw [beq_eq_false_iff_ne]; omega
          have e46 : ((s[k].toNat : Int) == 46) = false := by rw [beq_eq_false_iff_ne]; omega
          have e58 : ((s[k].toNat : Int) == 58) = true := by rw [beq_iff_eq]; omega
          have dz : decide ((0 : Int) < (k : Int)) = false := by simp; omega
          have g97 : decide ((97 : Int) ≤ (s[k].toNat : Int)) = false := by simp; omega
          have g65 : decide ((65 : Int) ≤ (s[k].toNat : Int)) = false := by simp; omega
          have g48 : decide ((48 : Int) ≤ (s[k].toNat : Int)) = true := by simp; omega
          have l122 : decide ((s[k].toNat : Int) ≤ 122) = true := by simp; omega
          have l90 : decide ((s[k].toNat : Int) ≤ 90) = true := by simp; omega
          have l57 : decide ((s[k].toNat : Int) ≤ 57) = false := by simp; omega
          have HF : Hid (okFrom true s.data.toList = false) := by show _ = _; rw [HC.out, hkb, hst]; simp [firstN, laterN]; omega
          clear hst hkb HC hz1
          go_wp2_with fail
          go_ret
          exact ⟨by unfold isName; rw [HF.out]; rfl, rfl⟩
        · have e95 : ((s[k].toNat : Int) == 95) = false := by rw [beq_eq_false_iff_ne]; omega
          have e45 : ((s[k].toNat : Int) == 45) = false := by rw [beq_eq_false_iff_ne]; omega
          have e46 : ((s[k].toNat : Int) == 46) = false := by rw [beq_eq_false_iff_ne]; omega
          have e58 : ((s[k].toNat : Int) == 58) = false := by rw [beq_eq_false_iff_ne]; omega
          have dz : decide ((0 : Int) < (k : Int)) = false := by simp; omega
          have g97 : decide ((97 : Int) ≤ (s[k].toNat : Int)) = false := by simp; omega
          have g65 : decide ((65 : Int) ≤ (s[k].toNat : Int)) = false := by simp; omega
          have g48 : decide ((48 : Int) ≤ (s[k].toNat : Int)) = true := by simp; omega
          have l122 : decide ((s[k].toNat : Int) ≤ 122) = true := by simp; omega
          have l90 : decide ((s[k].toNat : Int) ≤ 90) = true := by simp; omega
          have l57 : decide ((s[k].toNat : Int) ≤ 57) = false := by simp; omega
          have HF : Hid (okFrom true s.data.toList = false) := by show _ = _; rw [HC.out, hkb, hst]; simp [firstN, laterN]; omega
          clear hst hkb HC hz1
          go_wp2_with fail
          go_ret
          exact ⟨by unfold isName; rw [HF.out]; rfl, rfl⟩
        · have e95 : ((s[k].toNat : Int) == 95) = false := by rw [beq_eq_false_iff_ne]; omega
          have e45 : ((s[k].toNat : Int) == 45) = false := by rw [beq_eq_false_iff_ne]; omega
          have e46 : ((s[k].toNat : Int) == 46) = false := by rw [beq_eq_false_iff_ne]; omega
          have e58 : ((s[k].toNat : Int) == 58) = false := by rw [beq_eq_false_iff_ne]; omega
          have dz : decide ((0 : Int) < (k : Int)) = false := by simp; omega
          have g97 : decide ((97 : Int) ≤ (s[k].toNat : Int)) = false := by simp; omega
          have g65 : decide ((65 : Int) ≤ (s[k].toNat : Int)) = true := by simp; omega
          have g48 : decide ((48 : Int) ≤ (s[k].toNat : Int)) = true := by simp; omega
          have l122 : decide ((s[k].toNat : Int) ≤ 122) = true := by simp; omega
          have l90 : decide ((s[k].toNat : Int) ≤ 90) = true := by simp; omega
          have l57 : decide ((s[k].toNat : Int) ≤ 57) = false := by simp; omega
          have HG : Hid (okFrom true s.data.toList = okFrom (k + 1 == 0) (s.data.toList.drop (k + 1))) := by
            show _ = _
            rw [HC.out, hkb, hst, hz1]
            simp [firstN, laterN]
            intro _; omega
          clear hst hkb HC hz1
          go_wp2_with fail
          go_round
          case rel => exact ⟨k + 1, by omega, by go_num, HG⟩
          case measure => simp [intOf]; omega
        · have e95 : ((s[k].toNat : Int) == 95) = false := by rw [beq_eq_false_iff_ne]; omega
          have e45 : ((s[k].toNat : Int) == 45) = false := by rw [beq_eq_false_iff_ne]; omega
          have e46 : ((s[k].toNat : Int) == 46) = false := by rw [beq_eq_false_iff_ne]; omega
          have e58 : ((s[k].toNat : Int) == 58) = false := by rw [beq_eq_false_iff_ne]; omega
          have dz : decide ((0 : Int) < (k : Int)) = false := by simp; omega
          have g97 : decide ((97 : Int) ≤ (s[k].toNat : Int)) = false := by simp; omega
          have g65 : decide ((65 : Int) ≤ (s[k].toNat : Int)) = true := by simp; omega
          have g48 : decide ((48 : Int) ≤ (s[k].toNat : Int)) = true := by simp; omega
          have l122 : decide ((s[k].toNat : Int) ≤ 122) = true := by simp; omega
          have l90 : decide ((s[k].toNat : Int) ≤ 90) = false := by simp; omega
          have l57 : decide ((s[k].toNat : Int) ≤ 57) = false := by simp; omega
          have HF : Hid (okFrom true s.data.toList = false) := by show _ = _; rw [HC.out, hkb, hst]; simp [firstN, laterN]; omega
          clear hst hkb HC hz1
          go_wp2_with fail
          go_ret
          exact ⟨by unfold isName; rw [HF.out]; rfl, rfl⟩
        · have e95 : ((s[k].toNat : Int) == 95) = true := by rw [beq_iff_eq]; omega
          have e45 : ((s[k].toNat : Int) == 45) = false := by rw [beq_eq_false_iff_ne]; omega
          have e46 : ((s[k].toNat : Int) == 46) = false := by rw [beq_eq_false_iff_ne]; omega
          have e58 : ((s[k].toNat : Int) == 58) = false := by rw [beq_eq_false_iff_ne]; omega
          have dz : decide ((0 : Int) < (k : Int)) = false := by simp; omega
          have g97 : decide ((97 : Int) ≤ (s[k].toNat : Int)) = false := by simp; omega
          have g65 : decide ((65 : Int) ≤ (s[k].toNat : Int)) = true := by simp; omega
          have g48 : decide ((48 : Int) ≤ (s[k].toNat : Int)) = true := by simp; omega
          have l122 : decide ((s[k].toNat : Int) ≤ 122) = true := by simp; omega
          have l90 : decide ((s[k].toNat : Int) ≤ 90) = false := by simp; omega
          have l57 : decide ((s[k].toNat : Int) ≤ 57) = false := by simp; omega
          have HG : Hid (okFrom true s.data.toList = okFrom (k + 1 == 0) (s.data.toList.drop (k + 1))) := by
            show _ = _
            rw [HC.out, hkb, hst, hz1]
            simp [firstN, laterN]
            intro _; omega
          clear hst hkb HC hz1
          go_wp2_with fail
          go_round
          case rel => exact ⟨k + 1, by omega, by go_num, HG⟩
          case measure => simp [intOf]; omega
        · have e95 : ((s[k].toNat : Int) == 95) = false := by rw [beq_eq_false_iff_ne]; omega
          have e45 : ((s[k].toNat : Int) == 45) = false := by rw [beq_eq_false_iff_ne]; omega
          have e46 : ((s[k].toNat : Int) == 46) = false := by rw [beq_eq_false_iff_ne]; omega
          have e58 : ((s[k].toNat : Int) == 58) = false := by rw [beq_eq_false_iff_ne]; omega
          have dz : decide ((0 : Int) < (k : Int)) = false := by simp; omega
          have g97 : decide ((97 : Int) ≤ (s[k].toNat : Int)) = false := by simp; omega
          have g65 : decide ((65 : Int) ≤ (s[k].toNat : Int)) = true := by simp; omega
          have g48 : decide ((48 : Int) ≤ (s[k].toNat : Int)) = true := by simp; omega
          have l122 : decide ((s[k].toNat : Int) ≤ 122) = true := by simp; omega
          have l90 : decide ((s[k].toNat : Int) ≤ 90) = false := by simp; omega
          have l57 : decide ((s[k].toNat : Int) ≤ 57) = false := by simp; omega
          have HF : Hid (okFrom true s.data.toList = false) := by show _ = _; rw [HC.out, hkb, hst]; simp [firstN, laterN]; omega
          clear hst hkb HC hz1
          go_wp2_with fail
          go_ret
          exact ⟨by unfold isName; rw [HF.out]; rfl, rfl⟩
        · have e95 : ((s[k].toNat : Int) == 95) = false := by rw [beq_eq_false_iff_ne]; omega
          have e45 : ((s[k].toNat : Int) == 45) = false := by rw [beq_eq_false_iff_ne]; omega
          have e46 : ((s[k].toNat : Int) == 46) = false := by rw [beq_eq_false_iff_ne]; omega
          have e58 : ((s[k].toNat : Int) == 58) = false := by rw [beq_eq_false_iff_ne]; omega
          have dz : decide ((0 : Int) < (k : Int)) = false := by simp; omega
          have g97 : decide ((97 : Int) ≤ (s[k].toNat : Int)) = true := by simp; omega
          have g65 : decide ((65 : Int) ≤ (s[k].toNat : Int)) = true := by simp; omega
          have g48 : decide ((48 : Int) ≤ (s[k].toNat : Int)) = true := by simp; omega
          have l122 : decide ((s[k].toNat : Int) ≤ 122) = true := by simp; omega
          have l90 : decide ((s[k].toNat : Int) ≤ 90) = false := by simp; omega
          have l57 : decide ((s[k].toNat : Int) ≤ 57) = false := by simp; omega
          have HG : Hid (okFrom true s.data.toList = okFrom (k + 1 == 0) (s.data.toList.drop (k + 1))) := by
            show _ = _
            rw [HC.out, hkb, hst, hz1]
            simp [firstN, laterN]
            intro _; omega
          clear hst hkb HC hz1
          go_wp2_with fail
          go_round
          case rel => exact ⟨k + 1, by omega, by go_num, HG⟩
          case measure => simp [intOf]; omega
        · have e95 : ((s[k].toNat : Int) == 95) = false := by rw [beq_eq_false_iff_ne]; omega
          have e45 : ((s[k].toNat : Int) == 45) = false := by rw [beq_eq_false_iff_ne]; omega
          have e46 : ((s[k].toNat : Int) == 46) = false := by rw [beq_eq_false_iff_ne]; omega
          have e58 : ((s[k].toNat : Int) == 58) = false := by rw [beq_eq_false_iff_ne]; omega
          have dz : decide ((0 : Int) < (k : Int)) = false := by simp; omega
          have g97 : decide ((97 : Int) ≤ (s[k].toNat : Int)) = true := by simp; omega
          have g65 : decide ((65 : Int) ≤ (s[k].toNat : Int)) = true := by simp; omega
          have g48 : decide ((48 : Int) ≤ (s[k].toNat : Int)) = true := by simp; omega
          have l122 : decide ((s[k].toNat : Int) ≤ 122) = false := by simp; omega
          have l90 : decide ((s[k].toNat : Int) ≤ 90) = false := by simp; omega
          have l57 : decide ((s[k].toNat : Int) ≤ 57) = false := by simp; omega
          have HF : Hid (okFrom true s.data.toList = false) := by show _ = _; rw [HC.out, hkb, hst]; simp [firstN, laterN]; omega
          clear hst hkb HC hz1
          go_wp2_with fail
          go_ret
          exact ⟨by unfold isName; rw [HF.out]; rfl, rfl⟩
      · have hkb : (k == 0) = false := by simp; omega
        rw [hkb] at hst
        have hz : ((k : Int) == 0) = false := by rw [beq_eq_false_iff_ne]; omega
        have hz1 : (k + 1 == 0) = false := by simp
        rcases cls s[k].toNat with h | h | h | h | h | h | h | h | h | h | h | h | h
        · have e95 : ((s[k].toNat : Int) == 95) = false := by rw [beq_eq_false_iff_ne]; omega
          have e45 : ((s[k].toNat : Int) == 45) = false := by rw [beq_eq_false_iff_ne]; omega
          have e46 : ((s[k].toNat : Int) == 46) = false := by rw [beq_eq_false_iff_ne]; omega
          have e58 : ((s[k].toNat : Int) == 58) = false := by rw [beq_eq_false_iff_ne]; omega
          have dz : decide ((0 : Int) < (k : Int)) = true := by simp; omega
          have g97 : decide ((97 : Int) ≤ (s[k].toNat : Int)) = false := by simp; omega
          have g65 : decide ((65 : Int) ≤ (s[k].toNat : Int)) = false := by simp; omega
          have g48 : decide ((48 : Int) ≤ (s[k].toNat : Int)) = false := by simp; omega
          have l122 : decide ((s[k].toNat : Int) ≤ 122) = true := by simp; omega
          have l90 : decide ((s[k].toNat : Int) ≤ 90) = true := by simp; omega
          have l57 : decide ((s[k].toNat : Int) ≤ 57) = true := by simp; omega
          have HF : Hid (okFrom true s.data.toList = false) := by show _ = _; rw [HC.out, hkb, hst]; simp [firstN, laterN]; omega
          clear hst hkb HC hz1
          go_wp2_with fail
          go_ret
          exact ⟨by unfold isName; rw [HF.out]; rfl, rfl⟩
        · have e95 : ((s[k].toNat : Int) == 95) = false := by rw [beq_eq_false_iff_ne]; omega
          have e45 : ((s[k].toNat : Int) == 45) = true := by rw [beq_iff_eq]; omega
          have e46 : ((s[k].toNat : Int) == 46) = false := by rw [beq_eq_false_iff_ne]; omega
          have e58 : ((s[k].toNat : Int) == 58) = false := by rw [beq_eq_false_iff_ne]; omega
          have dz : decide ((0 : Int) < (k : Int)) = true := by simp; omega
          have g97 : decide ((97 : Int) ≤ (s[k].toNat : Int)) = false := by simp; omega
          have g65 : decide ((65 : Int) ≤ (s[k].toNat : Int)) = false := by simp; omega
          have g48 : decide ((48 : Int) ≤ (s[k].toNat : Int)) = false := by simp; omega
          have l122 : decide ((s[k].toNat : Int) ≤ 122) = true := by simp; omega
          have l90 : decide ((s[k].toNat : Int) ≤ 90) = true := by simp; omega
          have l57 : decide ((s[k].toNat : Int) ≤ 57) = true := by simp; omega
          have HG : Hid (okFrom true s.data.toList = okFrom (k + 1 == 0) (s.data.toList.drop (k + 1))) := by
            show _ = _
            rw [HC.out, hkb, hst, hz1]
            simp [firstN, laterN]
            intro _; omega
          clear hst hkb HC hz1
          go_wp2_with fail
          go_round
          case rel => exact ⟨k + 1, by omega, by go_num, HG⟩
          case measure => simp [intOf]; omega
        · have e95 : ((s[k].toNat : Int) == 95) = false := by rw [beq_eq_false_iff_ne]; omega
          have e45 : ((s[k].toNat : Int) == 45) = false := by rw [beq_eq_false_iff_ne]; omega
          have e46 : ((s[k].toNat : Int) == 46) = true := by rw [beq_iff_eq]; omega
          have e58 : ((s[k].toNat : Int) == 58) = false := by rw [beq_eq_false_iff_ne]; omega
          have dz : decide ((0 : Int) < (k : Int)) = true := by simp; omega
          have g97 : decide ((97 : Int) ≤ (s[k].toNat : Int)) = false := by simp; omega
          have g65 : decide ((65 : Int) ≤ (s[k].toNat : Int)) = false := by simp; omega
          have g48 : decide ((48 : Int) ≤ (s[k].toNat : Int)) = false := by simp; omega
          have l122 : decide ((s[k].toNat : Int) ≤ 122) = true := by simp; omega
          have l90 : decide ((s[k].toNat : Int) ≤ 90) = true := by simp; omega
          have l57 : decide ((s[k].toNat : Int) ≤ 57) = true := by simp; omega
          have HG : Hid (okFrom true s.data.toList = okFrom (k + 1 == 0) (s.data.toList.drop (k + 1))) := by
            show _ = _
            rw [HC.out, hkb, hst, hz1]
            simp [firstN, laterN]
            intro _; omega
          clear hst hkb HC hz1
          go_wp2_with fail
          go_round
          case rel => exact ⟨k + 1, by omega, by go_num, HG⟩
          case measure => simp [intOf]; omega
        · have e95 : ((s[k].toNat : Int) == 95) = false := by rw [beq_eq_false_iff_ne]; omega
          have e45 : ((s[k].toNat : Int) == 45) = false := by rw [beq_eq_false_iff_ne]; omega
          have e46 : ((s[k].toNat : Int) == 46) = false := by rw [beq_eq_false_iff_ne]; omega
          have e58 : ((s[k].toNat : Int) == 58) = false := by rw [beq_eq_false_iff_ne]; omega
          have dz : decide ((0 : Int) < (k : Int)) = true := by simp; omega
          have g97 : decide ((97 : Int) ≤ (s[k].toNat : Int)) = false := by simp; omega
          have g65 : decide ((65 : Int) ≤ (s[k].toNat : Int)) = false := by simp; omega
          have g48 : decide ((48 : Int) ≤ (s[k].toNat : Int)) = false := by simp; omega
          have l122 : decide ((s[k].toNat : Int) ≤ 122) = true := by simp; omega
          have l90 : decide ((s[k].toNat : Int) ≤ 90) = true := by simp; omega
          have l57 : decide ((s[k].toNat : Int) ≤ 57) = true := by simp; omega
          have HF : Hid (okFrom true s.data.toList = false) := by show _ = _; rw [HC.out, hkb, hst]; simp [firstN, laterN]; omega
          clear hst hkb HC hz1
          go_wp2_with fail
          go_ret
          exact ⟨by unfold isName; rw [HF.out]; rfl, rfl⟩
        · have e95 : ((s[k].toNat : Int) == 95) = false := by rw [beq_eq_false_iff_ne]; omega
          have e45 : ((s[k].toNat : Int) == 45) = false := by rw [beq_eq_false_iff_ne]; omega
          have e46 : ((s[k].toNat : Int) == 46) = false := by rw [beq_eq_false_iff_ne]; omega
          have e58 : ((s[k].toNat : Int) == 58) = false := by rw [beq_eq_false_iff_ne]; omega
          have dz : decide ((0 : Int) < (k : Int)) = true := by simp; omega
          have g97 : decide ((97 : Int) ≤ (s[k].toNat : Int)) = false := by simp; omega
          have g65 : decide ((65 : Int) ≤ (s[k].toNat : Int)) = false := by simp; omega
          have g48 : decide ((48 : Int) ≤ (s[k].toNat : Int)) = true := by simp; omega
          have l122 : decide ((s[k].toNat : Int) ≤ 122) = true := by simp; omega
          have l90 : decide ((s[k].toNat : Int) ≤ 90) = true := by simp; omega
          have l57 : decide ((s[k].toNat : Int) ≤ 57) = true := by simp; omega
          have HG : Hid (okFrom true s.data.toList = okFrom (k + 1 == 0) (s.data.toList.drop (k + 1))) := by
            show _ = _
            rw [HC.out, hkb, hst, hz1]
            simp [firstN, laterN]
            intro _; omega
          clear hst hkb HC hz1
          go_wp2_with fail
          go_round
          case rel => exact ⟨k + 1, by omega, by go_num, HG⟩
          case measure => simp [intOf]; omega
        · have e95 : ((s[k].toNat : Int) == 95) = false := by rw [beq_eq_false_iff_ne]; omega
          have e45 : ((s[k].toNat : Int) == 45) = false := by rw [beq_eq_false_iff_ne]; omega
          have e46 : ((s[k].toNat : Int) == 46) = false := by rw [beq_eq_false_iff_ne]; omega
          have e58 : ((s[k].toNat : Int) == 58) = true := by rw [beq_iff_eq]; omega
          have dz : decide ((0 : Int) < (k : Int)) = true := by simp; omega
          have g97 : decide ((97 : Int) ≤ (s[k].toNat : Int)) = false := by simp; omega
          have g65 : decide ((65 : Int) ≤ (s[k].toNat : Int)) = false := by simp; omega
          have g48 : decide ((48 : Int) ≤ (s[k].toNat : Int)) = true := by simp; omega
          have l122 : decide ((s[k].toNat : Int) ≤ 122) = true := by simp; omega
          have l90 : decide ((s[k].toNat : Int) ≤ 90) = true := by simp; omega
          have l57 : decide ((s[k].toNat : Int) ≤ 57) = false := by simp; omega
          have HG : Hid (okFrom true s.data.toList = okFrom (k + 1 == 0) (s.data.toList.drop (k + 1))) := by
            show _ = _
            rw [HC.out, hkb, hst, hz1]
            simp [firstN, laterN]
            intro _; omega
          clear hst hkb HC hz1
          go_wp2_with fail
          go_round
          case rel => exact ⟨k + 1, by omega, by go_num, HG⟩
          case measure => simp [intOf]; omega
        · have e95 : ((s[k].toNat : Int) == 95) = false := by rw [beq_eq_false_iff_ne]; omega
          have e45 : ((s[k].toNat : Int) == 45) = false := by rw [beq_eq_false_iff_ne]; omega
          have e46 : ((s[k].toNat : Int) == 46) = false := by rw [beq_eq_false_iff_ne]; omega
          have e58 : ((s[k].toNat : Int) == 58) = false := by rw [beq_eq_false_iff_ne]; omega
          have dz : decide ((0 : Int) < (k : Int)) = true := by simp; omega
          have g97 : decide ((97 : Int) ≤ (s[k].toNat : Int)) = false := by simp; omega
          have g65 : decide ((65 : Int) ≤ (s[k].toNat : Int)) = false := by simp; omega
          have g48 : decide ((48 : Int) ≤ (s[k].toNat : Int)) = true := by simp; omega
          have l122 : decide ((s[k].toNat : Int) ≤ 122) = true := by simp; omega
          have l90 : decide ((s[k].toNat : Int) ≤ 90) = true := by simp; omega
          have l57 : decide ((s[k].toNat : Int) ≤ 57) = false := by simp; omega
          have HF : Hid (okFrom true s.data.toList = false) := by show _ = _; rw [HC.out, hkb, hst]; simp [firstN, laterN]; omega
          clear hst hkb HC hz1
          go_wp2_with fail
          go_ret
          exact ⟨by unfold isName; rw [HF.out]; rfl, rfl⟩
        · have e95 : ((s[k].toNat : Int) == 95) = false := by rw [beq_eq_false_iff_ne]; omega
          have e45 : ((s[k].toNat : Int) == 45) = false := by rw [beq_eq_false_iff_ne]; omega
          have e46 : ((s[k].toNat : Int) == 46) = false := by rw [beq_eq_false_iff_ne]; omega
          have e58 : ((s[k].toNat : Int) == 58) = false := by rw [beq_eq_false_iff_ne]; omega
          have dz : decide ((0 : Int) < (k : Int)) = true := by simp; omega
          have g97 : decide ((97 : Int) ≤ (s[k].toNat : Int)) = false := by simp; omega
          have g65 : decide ((65 : Int) ≤ (s[k].toNat : Int)) = true := by simp; omega
          have g48 : decide ((48 : Int) ≤ (s[k].toNat : Int)) = true := by simp; omega
          have l122 : decide ((s[k].toNat : Int) ≤ 122) = true := by simp; omega
          have l90 : decide ((s[k].toNat : Int) ≤ 90) = true := by simp; omega
          have l57 : decide ((s[k].toNat : Int) ≤ 57) = false := by simp; omega
          have HG : Hid (okFrom true s.data.toList = okFrom (k + 1 == 0) (s.data.toList.drop (k + 1))) := by
            show _ = _
            rw [HC.out, hkb, hst, hz1]
            simp [firstN, laterN]
            intro _; omega
          clear hst hkb HC hz1
          go_wp2_with fail
          go_round
          case rel => exact ⟨k + 1, by omega, by go_num, HG⟩
          case measure => simp [intOf]; omega
        · have e95 : ((s[k].toNat : Int) == 95) = false := by rw [beq_eq_false_iff_ne]; omega
          have e45 : ((s[k].toNat : Int) == 45) = false := by rw [beq_eq_false_iff_ne]; omega
          have e46 : ((s[k].toNat : Int) == 46) = false := by rw [beq_eq_false_iff_ne]; omega
          have e58 : ((s[k].toNat : Int) == 58) = false := by rw [beq_eq_false_iff_ne]; omega
          have dz : decide ((0 : Int) < (k : Int)) = true := by simp; omega
          have g97 : decide ((97 : Int) ≤ (s[k].toNat : Int)) = false := by simp; omega
          have g65 : decide ((65 : Int) ≤ (s[k].toNat : Int)) = true := by simp; omega
          have g48 : decide ((48 : Int) ≤ (s[k].toNat : Int)) = true := by simp; omega
          have l122 : decide ((s[k].toNat : Int) ≤ 122) = true := by simp; omega
          have l90 : decide ((s[k].toNat : Int) ≤ 90) = false := by simp; omega
          have l57 : decide ((s[k].toNat : Int) ≤ 57) = false := by simp; omega
          have HF : Hid (okFrom true s.data.toList = false) := by show _ = _; rw [HC.out, hkb, hst]; simp [firstN, laterN]; omega
          clear hst hkb HC hz1
          go_wp2_with fail
          go_ret
          exact ⟨by unfold isName; rw [HF.out]; rfl, rfl⟩
        · have e95 : ((s[k].toNat : Int) == 95) = true := by rw [beq_iff_eq]; omega
          have e45 : ((s[k].toNat : Int) == 45) = false := by rw [beq_eq_false_iff_ne]; omega
          have e46 : ((s[k].toNat : Int) == 46) = false := by rw [beq_eq_false_iff_ne]; omega
          have e58 : ((s[k].toNat : Int) == 58) = false := by rw [beq_eq_false_iff_ne]; omega
          have dz : decide ((0 : Int) < (k : Int)) = true := by simp; omega
          have g97 : decide ((97 : Int) ≤ (s[k].toNat : Int)) = false := by simp; omega
          have g65 : decide ((65 : Int) ≤ (s[k].toNat : Int)) = true := by simp; omega
          have g48 : decide ((48 : Int) ≤ (s[k].toNat : Int)) = true := by simp; omega
          have l122 : decide ((s[k].toNat : Int) ≤ 122) = true := by simp; omega
          have l90 : decide ((s[k].toNat : Int) ≤ 90) = false := by simp; omega
          have l57 : decide ((s[k].toNat : Int) ≤ 57) = false := by simp; omega
          have HG : Hid (okFrom true s.data.toList = okFrom (k + 1 == 0) (s.data.toList.drop (k + 1))) := by
            show _ = _
            rw [HC.out, hkb, hst, hz1]
            simp [firstN, laterN]
            intro _; omega
          clear hst hkb HC hz1
          go_wp2_with fail
          go_round
          case rel => exact ⟨k + 1, by omega, by go_num, HG⟩
          case measure => simp [intOf]; omega
        · have e95 : ((s[k].toNat : Int) == 95) = false := by rw [beq_eq_false_iff_ne]; omega
          have e45 : ((s[k].toNat : Int) == 45) = false := by rw [beq_eq_false_iff_ne]; omega
          have e46 : ((s[k].toNat : Int) == 46) = false := by rw [beq_eq_false_iff_ne]; omega
          have e58 : ((s[k].toNat : Int) == 58) = false := by rw [beq_eq_false_iff_ne]; omega
          have dz : decide ((0 : Int) < (k : Int)) = true := by simp; omega
          have g97 : decide ((97 : Int) ≤ (s[k].toNat : Int)) = false := by simp; omega
          have g65 : decide ((65 : Int) ≤ (s[k].toNat : Int)) = true := by simp; omega
          have g48 : decide ((48 : Int) ≤ (s[k].toNat : Int)) = true := by simp; omega
          have l122 : decide ((s[k].toNat : Int) ≤ 122) = true := by simp; omega
          have l90 : decide ((s[k].toNat : Int) ≤ 90) = false := by simp; omega
          have l57 : decide ((s[k].toNat : Int) ≤ 57) = false := by simp; omega
          have HF : Hid (okFrom true s.data.toList = false) := by show _ = _; rw [HC.out, hkb, hst]; simp [firstN, laterN]; omega
          clear hst hkb HC hz1
          go_wp2_with fail
          go_ret
          exact ⟨by unfold isName; rw [HF.out]; rfl, rfl⟩
        · have e95 : ((s[k].toNat : Int) == 95) = false := by rw [beq_eq_false_iff_ne]; omega
          have e45 : ((s[k].toNat : Int) == 45) = false := by rw [beq_eq_false_iff_ne]; omega
          have e46 : ((s[k].toNat : Int) == 46) = false := by rw [beq_eq_false_iff_ne]; omega
          have e58 : ((s[k].toNat : Int) == 58) = false := by rw [beq_eq_false_iff_ne]; omega
          have dz : decide ((0 : Int) < (k : Int)) = true := by simp; omega
          have g97 : decide ((97 : Int) ≤ (s[k].toNat : Int)) = true := by simp; omega
          have g65 : decide ((65 : Int) ≤ (s[k].toNat : Int)) = true := by simp; omega
          have g48 : decide ((48 : Int) ≤ (s[k].toNat : Int)) = true := by simp; omega
          have l122 : decide ((s[k].toNat : Int) ≤ 122) = true := by simp; omega
          have l90 : decide ((s[k].toNat : Int) ≤ 90) = false := by simp; omega
          have l57 : decide ((s[k].toNat : Int) ≤ 57) = false := by simp; omega
          have HG : Hid (okFrom true s.data.toList = okFrom (k + 1 == 0) (s.data.toList.drop (k + 1))) := by
            show _ = _
            rw [HC.out, hkb, hst, hz1]
            simp [firstN, laterN]
            intro _; omega
          clear hst hkb HC hz1
          go_wp2_with fail
          go_round
          case rel => exact ⟨k + 1, by omega, by go_num, HG⟩
          case measure => simp [intOf]; omega
        · have e95 : ((s[k].toNat : Int) == 95) = false := by rw [beq_eq_false_iff_ne]; omega
          have e45 : ((s[k].toNat : Int) == 45) = false := by rw [beq_eq_false_iff_ne]; omega
          have e46 : ((s[k].toNat : Int) == 46) = false := by rw [beq_eq_false_iff_ne]; omega
          have e58 : ((s[k].toNat : Int) == 58) = false := by rw [beq_eq_false_iff_ne]; omega
          have dz : decide ((0 : Int) < (k : Int)) = true := by simp; omega
          have g97 : decide ((97 : Int) ≤ (s[k].toNat : Int)) = true := by simp; omega
          have g65 : decide ((65 : Int) ≤ (s[k].toNat : Int)) = true := by simp; omega
          have g48 : decide ((48 : Int) ≤ (s[k].toNat : Int)) = true := by simp; omega
          have l122 : decide ((s[k].toNat : Int) ≤ 122) = false := by simp; omega
          have l90 : decide ((s[k].toNat : Int) ≤ 90) = false := by simp; omega
          have l57 : decide ((s[k].toNat : Int) ≤ 57) = false := by simp; omega
          have HF : Hid (okFrom true s.data.toList = false) := by show _ = _; rw [HC.out, hkb, hst]; simp [firstN, laterN]; omega
          clear hst hkb HC hz1
          go_wp2_with fail
          go_ret
          exact ⟨by unfold isName; rw [HF.out]; rfl, rfl⟩
    · have HF : Hid (okFrom true s.data.toList = true) := by show _ = _; rw [HC.out, List.drop_eq_nil_of_le (by rw [← Lib.size_eq]; omega)]; cases (k == 0) <;> rfl
      by_cases h0 : s.size = 0
      · have hn : s.data.toList = [] := List.eq_nil_of_length_eq_zero (by rw [← Lib.size_eq]; exact h0)
        have HI : Hid (isName s.data.toList = false) := by show _ = _; rw [hn]; rfl
        obtain rfl : s = ⟨#[]⟩ := by
          have := congrArg (fun l : List UInt8 => ByteArray.mk l.toArray) hn
          exact this
        clear h0 hn
        go_wp2_with fail
        go_ret
        exact ⟨by rw [HI.out]; rfl, rfl⟩
      · have hne : s.toList.isEmpty = false := by
          rw [ByteArray.toList_eq]
          cases hl : s.data.toList with
          | nil => exact absurd (by rw [Lib.size_eq, hl]; rfl) h0
          | cons _ _ => rfl
        have hne2 : (s.toList == []) = false := by rw [← hne]; cases s.toList <;> rfl
        have hge : decide ((1 : Int) ≤ (s.size : Int)) = true := by simp; omega
        by_cases h32 : s.size ≤ 32
        · have HI : Hid (isName s.data.toList = true) := by show _ = _; unfold isName; rw [HF.out, ← Lib.size_eq]; simp; omega
          have hle : decide ((s.size : Int) ≤ 32) = true := by simp; omega
          clear h0
          go_wp2_with fail
          go_ret
          exact ⟨by rw [HI.out]; rfl, rfl⟩
        · have HI : Hid (isName s.data.toList = false) := by show _ = _; unfold isName; rw [HF.out, ← Lib.size_eq]; simp; omega
          have hle : decide ((s.size : Int) ≤ 32) = false := by simp; omega
          clear h0
          go_wp2_with fail
          go_ret
          exact ⟨by rw [HI.out]; rfl, rfl⟩

theorem space_at (s : ByteArray) (k : Nat) (h : k < s.size) : space (s.data.toList.drop k) = (blank s[k] && space (s.data.toList.drop (k + 1))) := by
  rw [show s.data.toList.drop k = s[k] :: s.data.toList.drop (k + 1) from List.drop_eq_getElem_cons (by simpa using h)]
  rfl

theorem blank_nat (c : UInt8) : blank c = (c.toNat == 32 || c.toNat == 9 || c.toNat == 10 || c.toNat == 13) := by
  unfold blank
  have e (n : Nat) (hn : n < 256) : (c == UInt8.ofNat n) = (c.toNat == n) := by
    rw [Bool.eq_iff_iff, beq_iff_eq, beq_iff_eq, u8_toNat_eq c n hn]
  have h32 : (c == 32) = (c.toNat == 32) := e 32 (by omega)
  have h9 : (c == 9) = (c.toNat == 9) := e 9 (by omega)
  have h10 : (c == 10) = (c.toNat == 10) := e 10 (by omega)
  have h13 : (c == 13) = (c.toNat == 13) := e 13 (by omega)
  simp only [List.contains_cons, List.contains_nil, h32, h9, h10, h13, Bool.or_false, Bool.or_assoc]

set_option maxHeartbeats 4000000 in
theorem refSpace_any (s : ByteArray) (w : World) (hs : s.size ≤ 9223372036854775806) :
    Calls Tryd.prog 26 #[.string s] w fun e w' => e = .returned (.bool (space s.data.toList)) ∧ w' = w := by
  go_enter Tryd.func26, Tryd.ntmps26
  go_wp2_with fail
  go_loop [3] (fun i => ∃ k : Nat, k ≤ s.size ∧ i = .int .i64 k ∧ Hid (space s.data.toList = space (s.data.toList.drop k))) (fun i => s.size - (intOf i).toNat)
  case atStart => exact ⟨0, Nat.zero_le _, rfl, rfl⟩
  case round =>
    obtain ⟨k, hk, rfl, HC⟩ := hrel
    by_cases hlt : k < s.size
    · have hst := space_at s k hlt
      rw [blank_nat] at hst
      have hc256 := s[k].toNat_lt
      by_cases h32 : s[k].toNat = 32
      · have e32 : ((s[k].toNat : Int) != 32) = false := by rw [bne_eq_false_iff_eq]; omega
        have e9 : ((s[k].toNat : Int) != 9) = true := by rw [bne_iff_ne]; omega
        have e10 : ((s[k].toNat : Int) != 10) = true := by rw [bne_iff_ne]; omega
        have e13 : ((s[k].toNat : Int) != 13) = true := by rw [bne_iff_ne]; omega
        have HG : Hid (space s.data.toList = space (s.data.toList.drop (k + 1))) := by
          show _ = _
          rw [HC.out, hst]
          simp [h32]
        clear hst HC h32
        go_wp2_with fail
        go_round
        case rel => exact ⟨k + 1, by omega, by go_num, HG⟩
        case measure => simp [intOf]; omega
      · have _t32 := True.intro
        by_cases h9 : s[k].toNat = 9
        · have e32 : ((s[k].toNat : Int) != 32) = true := by rw [bne_iff_ne]; omega
          have e9 : ((s[k].toNat : Int) != 9) = false := by rw [bne_eq_false_iff_eq]; omega
          have e10 : ((s[k].toNat : Int) != 10) = true := by rw [bne_iff_ne]; omega
          have e13 : ((s[k].toNat : Int) != 13) = true := by rw [bne_iff_ne]; omega
          have HG : Hid (space s.data.toList = space (s.data.toList.drop (k + 1))) := by
            show _ = _
            rw [HC.out, hst]
            simp [h9]
          clear hst HC h9
          go_wp2_with fail
          go_round
          case rel => exact ⟨k + 1, by omega, by go_num, HG⟩
          case measure => simp [intOf]; omega
        · have _t9 := True.intro
          by_cases h10 : s[k].toNat = 10
          · have e32 : ((s[k].toNat : Int) != 32) = true := by rw [bne_iff_ne]; omega
            have e9 : ((s[k].toNat : Int) != 9) = true := by rw [bne_iff_ne]; omega
            have e10 : ((s[k].toNat : Int) != 10) = false := by rw [bne_eq_false_iff_eq]; omega
            have e13 : ((s[k].toNat : Int) != 13) = true := by rw [bne_iff_ne]; omega
            have HG : Hid (space s.data.toList = space (s.data.toList.drop (k + 1))) := by
              show _ = _
              rw [HC.out, hst]
              simp [h10]
            clear hst HC h10
            go_wp2_with fail
            go_round
            case rel => exact ⟨k + 1, by omega, by go_num, HG⟩
            case measure => simp [intOf]; omega
          · have _t10 := True.intro
            by_cases h13 : s[k].toNat = 13
            · have e32 : ((s[k].toNat : Int) != 32) = true := by rw [bne_iff_ne]; omega
              have e9 : ((s[k].toNat : Int) != 9) = true := by rw [bne_iff_ne]; omega
              have e10 : ((s[k].toNat : Int) != 10) = true := by rw [bne_iff_ne]; omega
              have e13 : ((s[k].toNat : Int) != 13) = false := by rw [bne_eq_false_iff_eq]; omega
              have HG : Hid (space s.data.toList = space (s.data.toList.drop (k + 1))) := by
                show _ = _
                rw [HC.out, hst]
                simp [h13]
              clear hst HC h13
              go_wp2_with fail
              go_round
              case rel => exact ⟨k + 1, by omega, by go_num, HG⟩
              case measure => simp [intOf]; omega
            · have _t13 := True.intro
              have e32 : ((s[k].toNat : Int) != 32) = true := by rw [bne_iff_ne]; omega
              have e9 : ((s[k].toNat : Int) != 9) = true := by rw [bne_iff_ne]; omega
              have e10 : ((s[k].toNat : Int) != 10) = true := by rw [bne_iff_ne]; omega
              have e13 : ((s[k].toNat : Int) != 13) = true := by rw [bne_iff_ne]; omega
              have HF : Hid (space s.data.toList = false) := by show _ = _; rw [HC.out, hst]; simp [h32, h9, h10, h13]
              clear hst HC
              go_wp2_with fail
              go_ret
              exact ⟨by rw [HF.out]; rfl, rfl⟩
    · have HF : Hid (space s.data.toList = true) := by show _ = _; rw [HC.out, List.drop_eq_nil_of_le (by rw [← Lib.size_eq]; omega)]; rfl
      go_wp2_with fail
      go_ret
      exact ⟨by rw [HF.out]; rfl, rfl⟩

set_option maxHeartbeats 400000 in
theorem short_any (s : ByteArray) (w : World) (hs : s.size ≤ 9223372036854775806) :
    Calls Tryd.prog 11 #[.string s] w fun e w' => e = .returned (.string ⟨(s.data.toList.take 3000).toArray⟩) ∧ w' = w := by
  by_cases h : 3000 < s.size
  · have e : (ByteArray.mk (s.data.toList.take 3000).toArray) = s.extract 0 3000 := take_extract s 3000
    rw [e]
    go_enter Tryd.func11, Tryd.ntmps11
    go_wp2_with fail
    go_ret
    exact ⟨rfl, rfl⟩
  · have e : (ByteArray.mk (s.data.toList.take 3000).toArray) = s := by
      rw [List.take_of_length_le (by rw [← Lib.size_eq]; omega)]
    rw [e]
    go_enter Tryd.func11, Tryd.ntmps11
    go_wp2_with fail
    go_ret
    exact ⟨rfl, rfl⟩
end Go.Proofs.YtmfeojhphdmodaaDoor
