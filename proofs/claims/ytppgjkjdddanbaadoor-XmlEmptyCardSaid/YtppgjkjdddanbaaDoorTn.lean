/- text.Name, and the references of Name and Space: what they answer, for every text. -/
import Derived.Test.YtppgjkjdddanbaaDoorTx5
import Derived.Handy
namespace Go.Proofs.YtppgjkjdddanbaaDoor
open Go.RowKit
open Hb

def firstN (n : Nat) : Bool := decide ((97 ≤ n ∧ n < 123) ∨ (65 ≤ n ∧ n < 91) ∨ n = 95)
def laterN (n : Nat) : Bool := decide ((48 ≤ n ∧ n < 58) ∨ n = 45 ∨ n = 46 ∨ n = 58)
def okFrom : Bool → List UInt8 → Bool
  | _, [] => true
  | at0, c :: l => (firstN c.toNat || (!at0 && laterN c.toNat)) && okFrom false l
def isName (l : List UInt8) : Bool := okFrom true l && decide (1 ≤ l.length ∧ l.length ≤ 32)

theorem okFrom_at (s : ByteArray) (k : Nat) (h : k < s.size) (b : Bool) : okFrom b (s.data.toList.drop k) = ((firstN s[k].toNat || (!b && laterN s[k].toNat)) && okFrom false (s.data.toList.drop (k + 1))) := by
  rw [show s.data.toList.drop k = s[k] :: s.data.toList.drop (k + 1) from List.drop_eq_getElem_cons (by simpa using h)]
  rfl

theorem cls (n : Nat) : n < 45 ∨ (45 ≤ n ∧ n < 46) ∨ (46 ≤ n ∧ n < 47) ∨ (47 ≤ n ∧ n < 48) ∨ (48 ≤ n ∧ n < 58) ∨ (58 ≤ n ∧ n < 59) ∨ (59 ≤ n ∧ n < 65) ∨ (65 ≤ n ∧ n < 91) ∨ (91 ≤ n ∧ n < 95) ∨ (95 ≤ n ∧ n < 96) ∨ (96 ≤ n ∧ n < 97) ∨ (97 ≤ n ∧ n < 123) ∨ 123 ≤ n := by omega


set_option maxHeartbeats 8000000 in
theorem name_any (s : ByteArray) (w : World) (hs : s.size ≤ 9223372036854775806) :
    Calls Tryd.prog 49 #[.string s] w fun e w' => e = .returned (.bool (isName s.data.toList)) ∧ w' = w := by
  go_enter Tryd.func49, Tryd.ntmps49
  go_wp2_with fail
  go_loop [7] (fun i => ∃ k : Nat, k ≤ s.size ∧ i = .int .i64 k ∧ Hid (okFrom true s.data.toList = okFrom (k == 0) (s.data.toList.drop k))) (fun i => s.size - (intOf i).toNat)
  case atStart => exact ⟨0, Nat.zero_le _, rfl, rfl⟩
  case round =>
    obtain ⟨k, hk, rfl, HC⟩ := hrel
    by_cases hlt : k < s.size
    · have hst := okFrom_at s k hlt (k == 0)
      have hc256 := s[k].toNat_lt
      rcases (by omega : k < 1 ∨ 0 < k) with hk0 | hk0
      · have hkb : (k == 0) = true := by simp; omega
        rw [hkb] at hst
        have hz : ((k : Int) == 0) = true := by rw [beq_iff_eq]; omega
        have hz1 : (k + 1 == 0) = false := by simp
        rcases cls s[k].toNat with h | h | h | h | h | h | h | h | h | h | h | h | h
        · have e95 : ((s[k].toNat : Int) == 95) = false := by rw [beq_eq_false_iff_ne]; omega
          have e45 : ((s[k].toNat : Int) == 45) = false := by rw [beq_eq_false_iff_ne]; omega
          have e46 : ((s[k].toNat : Int) == 46) = false := by rw [beq_eq_false_iff_ne]; omega
          have e58 : ((s[k].toNat : Int) == 58) = false := by rw [beq_eq_false_iff_ne]; omega
          have dz : decide ((0 : Int) < (k : Int)) = false := by simp; omega
          have g97 : decide ((97 : Int) ≤ (s[k].toNat : Int)) = false := by simp; omega
          have g65 : decide ((65 : Int) ≤ (s[k].toNat : Int)) = false := by simp; omega
          have g48 : decide ((48 : Int) ≤ (s[k].toNat : Int)) = false := by simp; omega
          have l122 : decide ((s[k].toNat : Int) ≤ 122) = true := by simp; omega
          have l90 : decide ((s[k].toNat : Int) ≤ 90) = true := by simp; omega
          have l57 : decide ((s[k].toNat : Int) ≤ 57) = true := by simp; omega
          have HF : Hid (okFrom true s.data.toList = false) := by show _ = _; rw [HC.out, hkb, hst]; simp [firstN, laterN]; omega
          clear hst hkb HC hz1
          go_wp2_with fail
          go_ret
          exact ⟨by unfold isName; rw [HF.out]; rfl, rfl⟩
        · have e95 : ((s[k].toNat : Int) == 95) = false := by rw [beq_eq_false_iff_ne]; omega
          have e45 : ((s[k].toNat : Int) == 45) = true := by rw [beq_iff_eq]; omega
          have e46 : ((s[k].toNat : Int) == 46) = false := by rw [beq_eq_false_iff_ne]; omega
          have e58 : ((s[k].toNat : Int) == 58) = false := by rw [beq_eq_false_iff_ne]; omega
          have dz : decide ((0 : Int) < (k : Int)) = false := by simp; omega
          have g97 : decide ((97 : Int) ≤ (s[k].toNat : Int)) = false := by simp; omega
          have g65 : decide ((65 : Int) ≤ (s[k].toNat : Int)) = false := by simp; omega
          have g48 : decide ((48 : Int) ≤ (s[k].toNat : Int)) = false := by simp; omega
          have l122 : decide ((s[k].toNat : Int) ≤ 122) = true := by simp; omega
          have l90 : decide ((s[k].toNat : Int) ≤ 90) = true := by simp; omega
          have l57 : decide ((s[k].toNat : Int) ≤ 57) = true := by simp; omega
          have HF : Hid (okFrom true s.data.toList = false) := by show _ = _; rw [HC.out, hkb, hst]; simp [firstN, laterN]; omega
          clear hst hkb HC hz1
          go_wp2_with fail
          go_ret
          exact ⟨by unfold isName; rw [HF.out]; rfl, rfl⟩
        · have e95 : ((s[k].toNat : Int) == 95) = false := by rw [beq_eq_false_iff_ne]; omega
          have e45 : ((s[k].toNat : Int) == 45) = false := by rw [beq_eq_false_iff_ne]; omega
          have e46 : ((s[k].toNat : Int) == 46) = true := by rw [beq_iff_eq]; omega
          have e58 : ((s[k].toNat : Int) == 58) = false := by rw [beq_eq_false_iff_ne]; omega
          have dz : decide ((0 : Int) < (k : Int)) = false := by simp; omega
          have g97 : decide ((97 : Int) ≤ (s[k].toNat : Int)) = false := by simp; omega
          have g65 : decide ((65 : Int) ≤ (s[k].toNat : Int)) = false := by simp; omega
          have g48 : decide ((48 : Int) ≤ (s[k].toNat : Int)) = false := by simp; omega
          have l122 : decide ((s[k].toNat : Int) ≤ 122) = true := by simp; omega
          have l90 : decide ((s[k].toNat : Int) ≤ 90) = true := by simp; omega
          have l57 : decide ((s[k].toNat : Int) ≤ 57) = true := by simp; omega
          have HF : Hid (okFrom true s.data.toList = false) := by show _ = _; rw [HC.out, hkb, hst]; simp [firstN, laterN]; omega
          clear hst hkb HC hz1
          go_wp2_with fail
          go_ret
          exact ⟨by unfold isName; rw [HF.out]; rfl, rfl⟩
        · have e95 : ((s[k].toNat : Int) == 95) = false := by rw [beq_eq_false_iff_ne]; omega
          have e45 : ((s[k].toNat : Int) == 45) = false := by rw [beq_eq_false_iff_ne]; omega
          have e46 : ((s[k].toNat : Int) == 46) = false := by rw [beq_eq_false_iff_ne]; omega
          have e58 : ((s[k].toNat : Int) == 58) = false := by rw [beq_eq_false_iff_ne]; omega
          have dz : decide ((0 : Int) < (k : Int)) = false := by simp; omega
          have g97 : decide ((97 : Int) ≤ (s[k].toNat : Int)) = false := by simp; omega
          have g65 : decide ((65 : Int) ≤ (s[k].toNat : Int)) = false := by simp; omega
          have g48 : decide ((48 : Int) ≤ (s[k].toNat : Int)) = false := by simp; omega
          have l122 : decide ((s[k].toNat : Int) ≤ 122) = true := by simp; omega
          have l90 : decide ((s[k].toNat : Int) ≤ 90) = true := by simp; omega
          have l57 : decide ((s[k].toNat : Int) ≤ 57) = true := by simp; omega
          have HF : Hid (okFrom true s.data.toList = false) := by show _ = _; rw [HC.out, hkb, hst]; simp [firstN, laterN]; omega
          clear hst hkb HC hz1
          go_wp2_with fail
          go_ret
          exact ⟨by unfold isName; rw [HF.out]; rfl, rfl⟩
        · have e95 : ((s[k].toNat : Int) == 95) = false := by rw [beq_eq_false_iff_ne]; omega
          have e45 : ((s[k].toNat : Int) == 45) = false := by rw [beq_eq_false_iff_ne]; omega
          have e46 : ((s[k].toNat : Int) == 46) = false := by rw [beq_eq_false_iff_ne]; omega
          have e58 : ((s[k].toNat : Int) == 58) = false := by rw [beq_eq_false_iff_ne]; omega
          have dz : decide ((0 : Int) < (k : Int)) = false := by simp; omega
          have g97 : decide ((97 : Int) ≤ (s[k].toNat : Int)) = false := by simp; omega
          have g65 : decide ((65 : Int) ≤ (s[k].toNat : Int)) = false := by simp; omega
          have g48 : decide ((48 : Int) ≤ (s[k].toNat : Int)) = true := by simp; omega
          have l122 : decide ((s[k].toNat : Int) ≤ 122) = true := by simp; omega
          have l90 : decide ((s[k].toNat : Int) ≤ 90) = true := by simp; omega
          have l57 : decide ((s[k].toNat : Int) ≤ 57) = true := by simp; omega
          have HF : Hid (okFrom true s.data.toList = false) := by show _ = _; rw [HC.out, hkb, hst]; simp [firstN, laterN]; omega
          clear hst hkb HC hz1
          go_wp2_with fail
          go_ret
          exact ⟨by unfold isName; rw [HF.out]; rfl, rfl⟩
        · have e95 : ((s[k].toNat : Int) == 95) = false := by rw [beq_eq_false_iff_ne]; omega
          have e45 : ((s[k].toNat : Int) == 45) = false := by rw [beq_eq_false_iff_ne]; omega
          have e46 : ((s[k].toNat : Int) == 46) = false := by rw [beq_eq_false_iff_ne]; omega
          have e58 : ((s[k].toNat : Int) == 58) = true := by rw [beq_iff_eq]; omega
          have dz : decide ((0 : Int) < (k : Int)) = false := by simp; omega
          have g97 : decide ((97 : Int) ≤ (s[k].toNat : Int)) = false := by simp; omega
          have g65 : decide ((65 : Int) ≤ (s[k].toNat : Int)) = false := by simp; omega
          have g48 : decide ((48 : Int) ≤ (s[k].toNat : Int)) = true := by simp; omega
          have l122 : decide ((s[k].toNat : Int) ≤ 122) = true := by simp; omega
          have l90 : decide ((s[k].toNat : Int) ≤ 90) = true := by simp; omega
          have l57 : decide ((s[k].toNat : Int) ≤ 57) = false := by simp; omega
          have HF : Hid (okFrom true s.data.toList = false) := by show _ = _; rw [HC.out, hkb, hst]; simp [firstN, laterN]; omega
          clear hst hkb HC hz1
          go_wp2_with fail
          go_ret
          exact ⟨by unfold isName; rw [HF.out]; rfl, rfl⟩
        · have e95 : ((s[k].toNat : Int) == 95) = false := by rw [beq_eq_false_iff_ne]; omega
          have e45 : ((s[k].toNat : Int) == 45) = false := by rw [beq_eq_false_iff_ne]; omega
          have e46 : ((s[k].toNat : Int) == 46) = false := by rw [beq_eq_false_iff_ne]; omega
          have e58 : ((s[k].toNat : Int) == 58) = false := by rw [beq_eq_false_iff_ne]; omega
          have dz : decide ((0 : Int) < (k : Int)) = false := by simp; omega
          have g97 : decide ((97 : Int) ≤ (s[k].toNat : Int)) = false := by simp; omega
          have g65 : decide ((65 : Int) ≤ (s[k].toNat : Int)) = false := by simp; omega
          have g48 : decide ((48 : Int) ≤ (s[k].toNat : Int)) = true := by simp; omega
          have l122 : decide ((s[k].toNat : Int) ≤ 122) = true := by simp; omega
          have l90 : decide ((s[k].toNat : Int) ≤ 90) = true := by simp; omega
          have l57 : decide ((s[k].toNat : Int) ≤ 57) = false := by simp; omega
          have HF : Hid (okFrom true s.data.toList = false) := by show _ = _; rw [HC.out, hkb, hst]; simp [firstN, laterN]; omega
          clear hst hkb HC hz1
          go_wp2_with fail
          go_ret
          exact ⟨by unfold isName; rw [HF.out]; rfl, rfl⟩
        · have e95 : ((s[k].toNat : Int) == 95) = false := by rw [beq_eq_false_iff_ne]; omega
          have e45 : ((s[k].toNat : Int) == 45) = false := by rw [beq_eq_false_iff_ne]; omega
          have e46 : ((s[k].toNat : Int) == 46) = false := by rw [beq_eq_false_iff_ne]; omega
          have e58 : ((s[k].toNat : Int) == 58) = false := by rw [beq_eq_false_iff_ne]; omega
          have dz : decide ((0 : Int) < (k : Int)) = false := by simp; omega
          have g97 : decide ((97 : Int) ≤ (s[k].toNat : Int)) = false := by simp; omega
          have g65 : decide ((65 : Int) ≤ (s[k].toNat : Int)) = true := by simp; omega
          have g48 : decide ((48 : Int) ≤ (s[k].toNat : Int)) = true := by simp; omega
          have l122 : decide ((s[k].toNat : Int) ≤ 122) = true := by simp; omega
          have l90 : decide ((s[k].toNat : Int) ≤ 90) = true := by simp; omega
          have l57 : decide ((s[k].toNat : Int) ≤ 57) = false := by simp; omega
          have HG : Hid (okFrom true s.data.toList = okFrom (k + 1 == 0) (s.data.toList.drop (k + 1))) := by
            show _ = _
            rw [HC.out, hkb, hst, hz1]
            simp [firstN, laterN]
            intro _; omega
          clear hst hkb HC hz1
          go_wp2_with fail
          go_round
          case rel => exact ⟨k + 1, by omega, by go_num, HG⟩
          case measure => simp [intOf]; omega
        · have e95 : ((s[k].toNat : Int) == 95) = false := by rw [beq_eq_false_iff_ne]; omega
          have e45 : ((s[k].toNat : Int) == 45) = false := by rw [beq_eq_false_iff_ne]; omega
          have e46 : ((s[k].toNat : Int) == 46) = false := by rw [beq_eq_false_iff_ne]; omega
          have e58 : ((s[k].toNat : Int) == 58) = false := by rw [beq_eq_false_iff_ne]; omega
          have dz : decide ((0 : Int) < (k : Int)) = false := by simp; omega
          have g97 : decide ((97 : Int) ≤ (s[k].toNat : Int)) = false := by simp; omega
          have g65 : decide ((65 : Int) ≤ (s[k].toNat : Int)) = true := by simp; omega
          have g48 : decide ((48 : Int) ≤ (s[k].toNat : Int)) = true := by simp; omega
          have l122 : decide ((s[k].toNat : Int) ≤ 122) = true := by simp; omega
          have l90 : decide ((s[k].toNat : Int) ≤ 90) = false := by simp; omega
          have l57 : decide ((s[k].toNat : Int) ≤ 57) = false := by simp; omega
          have HF : Hid (okFrom true s.data.toList = false) := by show _ = _; rw [HC.out, hkb, hst]; simp [firstN, laterN]; omega
          clear hst hkb HC hz1
          go_wp2_with fail
          go_ret
          exact ⟨by unfold isName; rw [HF.out]; rfl, rfl⟩
        · have e95 : ((s[k].toNat : Int) == 95) = true := by rw [beq_iff_eq]; omega
          have e45 : ((s[k].toNat : Int) == 45) = false := by rw [beq_eq_false_iff_ne]; omega
          have e46 : ((s[k].toNat : Int) == 46) = false := by rw [beq_eq_false_iff_ne]; omega
          have e58 : ((s[k].toNat : Int) == 58) = false := by rw [beq_eq_false_iff_ne]; omega
          have dz : decide ((0 : Int) < (k : Int)) = false := by simp; omega
          have g97 : decide ((97 : Int) ≤ (s[k].toNat : Int)) = false := by simp; omega
          have g65 : decide ((65 : Int) ≤ (s[k].toNat : Int)) = true := by simp; omega
          have g48 : decide ((48 : Int) ≤ (s[k].toNat : Int)) = true := by simp; omega
          have l122 : decide ((s[k].toNat : Int) ≤ 122) = true := by simp; omega
          have l90 : decide ((s[k].toNat : Int) ≤ 90) = false := by simp; omega
          have l57 : decide ((s[k].toNat : Int) ≤ 57) = false := by simp; omega
          have HG : Hid (okFrom true s.data.toList = okFrom (k + 1 == 0) (s.data.toList.drop (k + 1))) := by
            show _ = _
            rw [HC.out, hkb, hst, hz1]
            simp [firstN, laterN]
            intro _; omega
          clear hst hkb HC hz1
          go_wp2_with fail
          go_round
          case rel => exact ⟨k + 1, by omega, by go_num, HG⟩
          case measure => simp [intOf]; omega
        · have e95 : ((s[k].toNat : Int) == 95) = false := by rw [beq_eq_false_iff_ne]; omega
          have e45 : ((s[k].toNat : Int) == 45) = false := by rw [beq_eq_false_iff_ne]; omega
          have e46 : ((s[k].toNat : Int) == 46) = false := by rw [beq_eq_false_iff_ne]; omega
          have e58 : ((s[k].toNat : Int) == 58) = false := by rw [beq_eq_false_iff_ne]; omega
          have dz : decide ((0 : Int) < (k : Int)) = false := by simp; omega
          have g97 : decide ((97 : Int) ≤ (s[k].toNat : Int)) = false := by simp; omega
          have g65 : decide ((65 : Int) ≤ (s[k].toNat : Int)) = true := by simp; omega
          have g48 : decide ((48 : Int) ≤ (s[k].toNat : Int)) = true := by simp; omega
          have l122 : decide ((s[k].toNat : Int) ≤ 122) = true := by simp; omega
          have l90 : decide ((s[k].toNat : Int) ≤ 90) = false := by simp; omega
          have l57 : decide ((s[k].toNat : Int) ≤ 57) = false := by simp; omega
          have HF : Hid (okFrom true s.data.toList = false) := by show _ = _; rw [HC.out, hkb, hst]; simp [firstN, laterN]; omega
          clear hst hkb HC hz1
          go_wp2_with fail
          go_ret
          exact ⟨by unfold isName; rw [HF.out]; rfl, rfl⟩
        · have e95 : ((s[k].toNat : Int) == 95) = false := by rw [beq_eq_false_iff_ne]; omega
          have e45 : ((s[k].toNat : Int) == 45) = false := by rw [beq_eq_false_iff_ne]; omega
          have e46 : ((s[k].toNat : Int) == 46) = false := by rw [beq_eq_false_iff_ne]; omega
          have e58 : ((s[k].toNat : Int) == 58) = false := by rw [beq_eq_false_iff_ne]; omega
          have dz : decide ((0 : Int) < (k : Int)) = false := by simp; omega
          have g97 : decide ((97 : Int) ≤ (s[k].toNat : Int)) = true := by simp; omega
          have g65 : decide ((65 : Int) ≤ (s[k].toNat : Int)) = true := by simp; omega
          have g48 : decide ((48 : Int) ≤ (s[k].toNat : Int)) = true := by simp; omega
          have l122 : decide ((s[k].toNat : Int) ≤ 122) = true := by simp; omega
          have l90 : decide ((s[k].toNat : Int) ≤ 90) = false := by simp; omega
          have l57 : decide ((s[k].toNat : Int) ≤ 57) = false := by simp; omega
          have HG : Hid (okFrom true s.data.toList = okFrom (k + 1 == 0) (s.data.toList.drop (k + 1))) := by
            show _ = _
            rw [HC.out, hkb, hst, hz1]
            simp [firstN, laterN]
            intro _; omega
          clear hst hkb HC hz1
          go_wp2_with fail
          go_round
          case rel => exact ⟨k + 1, by omega, by go_num, HG⟩
          case measure => simp [intOf]; omega
        · have e95 : ((s[k].toNat : Int) == 95) = false := by rw [beq_eq_false_iff_ne]; omega
          have e45 : ((s[k].toNat : Int) == 45) = false := by rw [beq_eq_false_iff_ne]; omega
          have e46 : ((s[k].toNat : Int) == 46) = false := by rw [beq_eq_false_iff_ne]; omega
          have e58 : ((s[k].toNat : Int) == 58) = false := by rw [beq_eq_false_iff_ne]; omega
          have dz : decide ((0 : Int) < (k : Int)) = false := by simp; omega
          have g97 : decide ((97 : Int) ≤ (s[k].toNat : Int)) = true := by simp; omega
          have g65 : decide ((65 : Int) ≤ (s[k].toNat : Int)) = true := by simp; omega
          have g48 : decide ((48 : Int) ≤ (s[k].toNat : Int)) = true := by simp; omega
          have l122 : decide ((s[k].toNat : Int) ≤ 122) = false := by simp; omega
          have l90 : decide ((s[k].toNat : Int) ≤ 90) = false := by simp; omega
          have l57 : decide ((s[k].toNat : Int) ≤ 57) = false := by simp; omega
          have HF : Hid (okFrom true s.data.toList = false) := by show _ = _; rw [HC.out, hkb, hst]; simp [firstN, laterN]; omega
          clear hst hkb HC hz1
          go_wp2_with fail
          go_ret
          exact ⟨by unfold isName; rw [HF.out]; rfl, rfl⟩
      · have hkb : (k == 0) = false := by simp; omega
        rw [hkb] at hst
        have hz : ((k : Int) == 0) = false := by rw [beq_eq_false_iff_ne]; omega
        have hz1 : (k + 1 == 0) = false := by simp
        rcases cls s[k].toNat with h | h | h | h | h | h | h | h | h | h | h | h | h
        · have e95 : ((s[k].toNat : Int) == 95) = false := by rw [beq_eq_false_iff_ne]; omega
          have e45 : ((s[k].toNat : Int) == 45) = false := by rw [beq_eq_false_iff_ne]; omega
          have e46 : ((s[k].toNat : Int) == 46) = false := by rw [beq_eq_false_iff_ne]; omega
          have e58 : ((s[k].toNat : Int) == 58) = false := by rw [beq_eq_false_iff_ne]; omega
          have dz : decide ((0 : Int) < (k : Int)) = true := by simp; omega
          have g97 : decide ((97 : Int) ≤ (s[k].toNat : Int)) = false := by simp; omega
          have g65 : decide ((65 : Int) ≤ (s[k].toNat : Int)) = false := by simp; omega
          have g48 : decide ((48 : Int) ≤ (s[k].toNat : Int)) = false := by simp; omega
          have l122 : decide ((s[k].toNat : Int) ≤ 122) = true := by simp; omega
          have l90 : decide ((s[k].toNat : Int) ≤ 90) = true := by simp; omega
          have l57 : decide ((s[k].toNat : Int) ≤ 57) = true := by simp; omega
          have HF : Hid (okFrom true s.data.toList = false) := by show _ = _; rw [HC.out, hkb, hst]; simp [firstN, laterN]; omega
          clear hst hkb HC hz1
          go_wp2_with fail
          go_ret
          exact ⟨by unfold isName; rw [HF.out]; rfl, rfl⟩
        · have e95 : ((s[k].toNat : Int) == 95) = false := by rw [beq_eq_false_iff_ne]; omega
          have e45 : ((s[k].toNat : Int) == 45) = true := by rw [beq_iff_eq]; omega
          have e46 : ((s[k].toNat : Int) == 46) = false := by rw [beq_eq_false_iff_ne]; omega
          have e58 : ((s[k].toNat : Int) == 58) = false := by rw [beq_eq_false_iff_ne]; omega
          have dz : decide ((0 : Int) < (k : Int)) = true := by simp; omega
          have g97 : decide ((97 : Int) ≤ (s[k].toNat : Int)) = false := by simp; omega
          have g65 : decide ((65 : Int) ≤ (s[k].toNat : Int)) = false := by simp; omega
          have g48 : decide ((48 : Int) ≤ (s[k].toNat : Int)) = false := by simp; omega
          have l122 : decide ((s[k].toNat : Int) ≤ 122) = true := by simp; omega
          have l90 : decide ((s[k].toNat : Int) ≤ 90) = true := by simp; omega
          have l57 : decide ((s[k].toNat : Int) ≤ 57) = true := by simp; omega
          have HG : Hid (okFrom true s.data.toList = okFrom (k + 1 == 0) (s.data.toList.drop (k + 1))) := by
            show _ = _
            rw [HC.out, hkb, hst, hz1]
            simp [firstN, laterN]
            intro _; omega
          clear hst hkb HC hz1
          go_wp2_with fail
          go_round
          case rel => exact ⟨k + 1, by omega, by go_num, HG⟩
          case measure => simp [intOf]; omega
        · have e95 : ((s[k].toNat : Int) == 95) = false := by rw [beq_eq_false_iff_ne]; omega
          have e45 : ((s[k].toNat : Int) == 45) = false := by rw [beq_eq_false_iff_ne]; omega
          have e46 : ((s[k].toNat : Int) == 46) = true := by rw [beq_iff_eq]; omega
          have e58 : ((s[k].toNat : Int) == 58) = false := by rw [beq_eq_false_iff_ne]; omega
          have dz : decide ((0 : Int) < (k : Int)) = true := by simp; omega
          have g97 : decide ((97 : Int) ≤ (s[k].toNat : Int)) = false := by simp; omega
          have g65 : decide ((65 : Int) ≤ (s[k].toNat : Int)) = false := by simp; omega
          have g48 : decide ((48 : Int) ≤ (s[k].toNat : Int)) = false := by simp; omega
          have l122 : decide ((s[k].toNat : Int) ≤ 122) = true := by simp; omega
          have l90 : decide ((s[k].toNat : Int) ≤ 90) = true := by simp; omega
          have l57 : decide ((s[k].toNat : Int) ≤ 57) = true := by simp; omega
          have HG : Hid (okFrom true s.data.toList = okFrom (k + 1 == 0) (s.data.toList.drop (k + 1))) := by
            show _ = _
            rw [HC.out, hkb, hst, hz1]
            simp [firstN, laterN]
            intro _; omega
          clear hst hkb HC hz1
          go_wp2_with fail
          go_round
          case rel => exact ⟨k + 1, by omega, by go_num, HG⟩
          case measure => simp [intOf]; omega
        · have e95 : ((s[k].toNat : Int) == 95) = false := by rw [beq_eq_false_iff_ne]; omega
          have e45 : ((s[k].toNat : Int) == 45) = false := by rw [beq_eq_false_iff_ne]; omega
          have e46 : ((s[k].toNat : Int) == 46) = false := by rw [beq_eq_false_iff_ne]; omega
          have e58 : ((s[k].toNat : Int) == 58) = false := by rw [beq_eq_false_iff_ne]; omega
          have dz : decide ((0 : Int) < (k : Int)) = true := by simp; omega
          have g97 : decide ((97 : Int) ≤ (s[k].toNat : Int)) = false := by simp; omega
          have g65 : decide ((65 : Int) ≤ (s[k].toNat : Int)) = false := by simp; omega
          have g48 : decide ((48 : Int) ≤ (s[k].toNat : Int)) = false := by simp; omega
          have l122 : decide ((s[k].toNat : Int) ≤ 122) = true := by simp; omega
          have l90 : decide ((s[k].toNat : Int) ≤ 90) = true := by simp; omega
          have l57 : decide ((s[k].toNat : Int) ≤ 57) = true := by simp; omega
          have HF : Hid (okFrom true s.data.toList = false) := by show _ = _; rw [HC.out, hkb, hst]; simp [firstN, laterN]; omega
          clear hst hkb HC hz1
          go_wp2_with fail
          go_ret
          exact ⟨by unfold isName; rw [HF.out]; rfl, rfl⟩
        · have e95 : ((s[k].toNat : Int) == 95) = false := by rw [beq_eq_false_iff_ne]; omega
          have e45 : ((s[k].toNat : Int) == 45) = false := by rw [beq_eq_false_iff_ne]; omega
          have e46 : ((s[k].toNat : Int) == 46) = false := by rw [beq_eq_false_iff_ne]; omega
          have e58 : ((s[k].toNat : Int) == 58) = false := by rw [beq_eq_false_iff_ne]; omega
          have dz : decide ((0 : Int) < (k : Int)) = true := by simp; omega
          have g97 : decide ((97 : Int) ≤ (s[k].toNat : Int)) = false := by simp; omega
          have g65 : decide ((65 : Int) ≤ (s[k].toNat : Int)) = false := by simp; omega
          have g48 : decide ((48 : Int) ≤ (s[k].toNat : Int)) = true := by simp; omega
          have l122 : decide ((s[k].toNat : Int) ≤ 122) = true := by simp; omega
          have l90 : decide ((s[k].toNat : Int) ≤ 90) = true := by simp; omega
          have l57 : decide ((s[k].toNat : Int) ≤ 57) = true := by simp; omega
          have HG : Hid (okFrom true s.data.toList = okFrom (k + 1 == 0) (s.data.toList.drop (k + 1))) := by
            show _ = _
            rw [HC.out, hkb, hst, hz1]
            simp [firstN, laterN]
            intro _; omega
          clear hst hkb HC hz1
          go_wp2_with fail
          go_round
          case rel => exact ⟨k + 1, by omega, by go_num, HG⟩
          case measure => simp [intOf]; omega
        · have e95 : ((s[k].toNat : Int) == 95) = false := by rw [beq_eq_false_iff_ne]; omega
          have e45 : ((s[k].toNat : Int) == 45) = false := by rw [beq_eq_false_iff_ne]; omega
          have e46 : ((s[k].toNat : Int) == 46) = false := by rw [beq_eq_false_iff_ne]; omega
          have e58 : ((s[k].toNat : Int) == 58) = true := by rw [beq_iff_eq]; omega
          have dz : decide ((0 : Int) < (k : Int)) = true := by simp; omega
          have g97 : decide ((97 : Int) ≤ (s[k].toNat : Int)) = false := by simp; omega
          have g65 : decide ((65 : Int) ≤ (s[k].toNat : Int)) = false := by simp; omega
          have g48 : decide ((48 : Int) ≤ (s[k].toNat : Int)) = true := by simp; omega
          have l122 : decide ((s[k].toNat : Int) ≤ 122) = true := by simp; omega
          have l90 : decide ((s[k].toNat : Int) ≤ 90) = true := by simp; omega
          have l57 : decide ((s[k].toNat : Int) ≤ 57) = false := by simp; omega
          have HG : Hid (okFrom true s.data.toList = okFrom (k + 1 == 0) (s.data.toList.drop (k + 1))) := by
            show _ = _
            rw [HC.out, hkb, hst, hz1]
            simp [firstN, laterN]
            intro _; omega
          clear hst hkb HC hz1
          go_wp2_with fail
          go_round
          case rel => exact ⟨k + 1, by omega, by go_num, HG⟩
          case measure => simp [intOf]; omega
        · have e95 : ((s[k].toNat : Int) == 95) = false := by rw [beq_eq_false_iff_ne]; omega
          have e45 : ((s[k].toNat : Int) == 45) = false := by rw [beq_eq_false_iff_ne]; omega
          have e46 : ((s[k].toNat : Int) == 46) = false := by rw [beq_eq_false_iff_ne]; omega
          have e58 : ((s[k].toNat : Int) == 58) = false := by rw [beq_eq_false_iff_ne]; omega
          have dz : decide ((0 : Int) < (k : Int)) = true := by simp; omega
          have g97 : decide ((97 : Int) ≤ (s[k].toNat : Int)) = false := by simp; omega
          have g65 : decide ((65 : Int) ≤ (s[k].toNat : Int)) = false := by simp; omega
          have g48 : decide ((48 : Int) ≤ (s[k].toNat : Int)) = true := by simp; omega
          have l122 : decide ((s[k].toNat : Int) ≤ 122) = true := by simp; omega
          have l90 : decide ((s[k].toNat : Int) ≤ 90) = true := by simp; omega
          have l57 : decide ((s[k].toNat : Int) ≤ 57) = false := by simp; omega
          have HF : Hid (okFrom true s.data.toList = false) := by show _ = _; rw [HC.out, hkb, hst]; simp [firstN, laterN]; omega
          clear hst hkb HC hz1
          go_wp2_with fail
          go_ret
          exact ⟨by unfold isName; rw [HF.out]; rfl, rfl⟩
        · have e95 : ((s[k].toNat : Int) == 95) = false := by rw [beq_eq_false_iff_ne]; omega
          have e45 : ((s[k].toNat : Int) == 45) = false := by rw [beq_eq_false_iff_ne]; omega
          have e46 : ((s[k].toNat : Int) == 46) = false := by rw [beq_eq_false_iff_ne]; omega
          have e58 : ((s[k].toNat : Int) == 58) = false := by rw [beq_eq_false_iff_ne]; omega
          have dz : decide ((0 : Int) < (k : Int)) = true := by simp; omega
          have g97 : decide ((97 : Int) ≤ (s[k].toNat : Int)) = false := by simp; omega
          have g65 : decide ((65 : Int) ≤ (s[k].toNat : Int)) = true := by simp; omega
          have g48 : decide ((48 : Int) ≤ (s[k].toNat : Int)) = true := by simp; omega
          have l122 : decide ((s[k].toNat : Int) ≤ 122) = true := by simp; omega
          have l90 : decide ((s[k].toNat : Int) ≤ 90) = true := by simp; omega
          have l57 : decide ((s[k].toNat : Int) ≤ 57) = false := by simp; omega
          have HG : Hid (okFrom true s.data.toList = okFrom (k + 1 == 0) (s.data.toList.drop (k + 1))) := by
            show _ = _
            rw [HC.out, hkb, hst, hz1]
            simp [firstN, laterN]
            intro _; omega
          clear hst hkb HC hz1
          go_wp2_with fail
          go_round
          case rel => exact ⟨k + 1, by omega, by go_num, HG⟩
          case measure => simp [intOf]; omega
        · have e95 : ((s[k].toNat : Int) == 95) = false := by rw [beq_eq_false_iff_ne]; omega
          have e45 : ((s[k].toNat : Int) == 45) = false := by rw [beq_eq_false_iff_ne]; omega
          have e46 : ((s[k].toNat : Int) == 46) = false := by rw [beq_eq_false_iff_ne]; omega
          have e58 : ((s[k].toNat : Int) == 58) = false := by rw [beq_eq_false_iff_ne]; omega
          have dz : decide ((0 : Int) < (k : Int)) = true := by simp; omega
          have g97 : decide ((97 : Int) ≤ (s[k].toNat : Int)) = false := by simp; omega
          have g65 : decide ((65 : Int) ≤ (s[k].toNat : Int)) = true := by simp; omega
          have g48 : decide ((48 : Int) ≤ (s[k].toNat : Int)) = true := by simp; omega
          have l122 : decide ((s[k].toNat : Int) ≤ 122) = true := by simp; omega
          have l90 : decide ((s[k].toNat : Int) ≤ 90) = false := by simp; omega
          have l57 : decide ((s[k].toNat : Int) ≤ 57) = false := by simp; omega
          have HF : Hid (okFrom true s.data.toList = false) := by show _ = _; rw [HC.out, hkb, hst]; simp [firstN, laterN]; omega
          clear hst hkb HC hz1
          go_wp2_with fail
          go_ret
          exact ⟨by unfold isName; rw [HF.out]; rfl, rfl⟩
        · have e95 : ((s[k].toNat : Int) == 95) = true := by rw [beq_iff_eq]; omega
          have e45 : ((s[k].toNat : Int) == 45) = false := by rw [beq_eq_false_iff_ne]; omega
          have e46 : ((s[k].toNat : Int) == 46) = false := by rw [beq_eq_false_iff_ne]; omega
          have e58 : ((s[k].toNat : Int) == 58) = false := by rw [beq_eq_false_iff_ne]; omega
          have dz : decide ((0 : Int) < (k : Int)) = true := by simp; omega
          have g97 : decide ((97 : Int) ≤ (s[k].toNat : Int)) = false := by simp; omega
          have g65 : decide ((65 : Int) ≤ (s[k].toNat : Int)) = true := by simp; omega
          have g48 : decide ((48 : Int) ≤ (s[k].toNat : Int)) = true := by simp; omega
          have l122 : decide ((s[k].toNat : Int) ≤ 122) = true := by simp; omega
          have l90 : decide ((s[k].toNat : Int) ≤ 90) = false := by simp; omega
          have l57 : decide ((s[k].toNat : Int) ≤ 57) = false := by simp; omega
          have HG : Hid (okFrom true s.data.toList = okFrom (k + 1 == 0) (s.data.toList.drop (k + 1))) := by
            show _ = _
            rw [HC.out, hkb, hst, hz1]
            simp [firstN, laterN]
            intro _; omega
          clear hst hkb HC hz1
          go_wp2_with fail
          go_round
          case rel => exact ⟨k + 1, by omega, by go_num, HG⟩
          case measure => simp [intOf]; omega
        · have e95 : ((s[k].toNat : Int) == 95) = false := by rw [beq_eq_false_iff_ne]; omega
          have e45 : ((s[k].toNat : Int) == 45) = false := by rw [beq_eq_false_iff_ne]; omega
          have e46 : ((s[k].toNat : Int) == 46) = false := by rw [beq_eq_false_iff_ne]; omega
          have e58 : ((s[k].toNat : Int) == 58) = false := by rw [beq_eq_false_iff_ne]; omega
          have dz : decide ((0 : Int) < (k : Int)) = true := by simp; omega
          have g97 : decide ((97 : Int) ≤ (s[k].toNat : Int)) = false := by simp; omega
          have g65 : decide ((65 : Int) ≤ (s[k].toNat : Int)) = true := by simp; omega
          have g48 : decide ((48 : Int) ≤ (s[k].toNat : Int)) = true := by simp; omega
          have l122 : decide ((s[k].toNat : Int) ≤ 122) = true := by simp; omega
          have l90 : decide ((s[k].toNat : Int) ≤ 90) = false := by simp; omega
          have l57 : decide ((s[k].toNat : Int) ≤ 57) = false := by simp; omega
          have HF : Hid (okFrom true s.data.toList = false) := by show _ = _; rw [HC.out, hkb, hst]; simp [firstN, laterN]; omega
          clear hst hkb HC hz1
          go_wp2_with fail
          go_ret
          exact ⟨by unfold isName; rw [HF.out]; rfl, rfl⟩
        · have e95 : ((s[k].toNat : Int) == 95) = false := by rw [beq_eq_false_iff_ne]; omega
          have e45 : ((s[k].toNat : Int) == 45) = false := by rw [beq_eq_false_iff_ne]; omega
          have e46 : ((s[k].toNat : Int) == 46) = false := by rw [beq_eq_false_iff_ne]; omega
          have e58 : ((s[k].toNat : Int) == 58) = false := by rw [beq_eq_false_iff_ne]; omega
          have dz : decide ((0 : Int) < (k : Int)) = true := by simp; omega
          have g97 : decide ((97 : Int) ≤ (s[k].toNat : Int)) = true := by simp; omega
          have g65 : decide ((65 : Int) ≤ (s[k].toNat : Int)) = true := by simp; omega
          have g48 : decide ((48 : Int) ≤ (s[k].toNat : Int)) = true := by simp; omega
          have l122 : decide ((s[k].toNat : Int) ≤ 122) = true := by simp; omega
          have l90 : decide ((s[k].toNat : Int) ≤ 90) = false := by simp; omega
          have l57 : decide ((s[k].toNat : Int) ≤ 57) = false := by simp; omega
          have HG : Hid (okFrom true s.data.toList = okFrom (k + 1 == 0) (s.data.toList.drop (k + 1))) := by
            show _ = _
            rw [HC.out, hkb, hst, hz1]
            simp [firstN, laterN]
            intro _; omega
          clear hst hkb HC hz1
          go_wp2_with fail
          go_round
          case rel => exact ⟨k + 1, by omega, by go_num, HG⟩
          case measure => simp [intOf]; omega
        · have e95 : ((s[k].toNat : Int) == 95) = false := by rw [beq_eq_false_iff_ne]; omega
          have e45 : ((s[k].toNat : Int) == 45) = false := by rw [beq_eq_false_iff_ne]; omega
          have e46 : ((s[k].toNat : Int) == 46) = false := by rw [beq_eq_false_iff_ne]; omega
          have e58 : ((s[k].toNat : Int) == 58) = false := by rw [beq_eq_false_iff_ne]; omega
          have dz : decide ((0 : Int) < (k : Int)) = true := by simp; omega
          have g97 : decide ((97 : Int) ≤ (s[k].toNat : Int)) = true := by simp; omega
          have g65 : decide ((65 : Int) ≤ (s[k].toNat : Int)) = true := by simp; omega
          have g48 : decide ((48 : Int) ≤ (s[k].toNat : Int)) = true := by simp; omega
          have l122 : decide ((s[k].toNat : Int) ≤ 122) = false := by simp; omega
          have l90 : decide ((s[k].toNat : Int) ≤ 90) = false := by simp; omega
          have l57 : decide ((s[k].toNat : Int) ≤ 57) = false := by simp; omega
          have HF : Hid (okFrom true s.data.toList = false) := by show _ = _; rw [HC.out, hkb, hst]; simp [firstN, laterN]; omega
          clear hst hkb HC hz1
          go_wp2_with fail
          go_ret
          exact ⟨by unfold isName; rw [HF.out]; rfl, rfl⟩
    · have HF : Hid (okFrom true s.data.toList = true) := by show _ = _; rw [HC.out, List.drop_eq_nil_of_le (by rw [← Lib.size_eq]; omega)]; cases (k == 0) <;> rfl
      by_cases h0 : s.size = 0
      · have hn : s.data.toList = [] := List.eq_nil_of_length_eq_zero (by rw [← Lib.size_eq]; exact h0)
        have HI : Hid (isName s.data.toList = false) := by show _ = _; rw [hn]; rfl
        obtain rfl : s = ⟨#[]⟩ := by
          have := congrArg (fun l : List UInt8 => ByteArray.mk l.toArray) hn
          exact this
        clear h0 hn
        go_wp2_with fail
        go_ret
        exact ⟨by rw [HI.out]; rfl, rfl⟩
      · have hne : s.toList.isEmpty = false := by
          rw [ByteArray.toList_eq]
          cases hl : s.data.toList with
          | nil => exact absurd (by rw [Lib.size_eq, hl]; rfl) h0
          | cons _ _ => rfl
        have hne2 : (s.toList == []) = false := by rw [← hne]; cases s.toList <;> rfl
        have hge : decide ((1 : Int) ≤ (s.size : Int)) = true := by simp; omega
        by_cases h32 : s.size ≤ 32
        · have HI : Hid (isName s.data.toList = true) := by show _ = _; unfold isName; rw [HF.out, ← Lib.size_eq]; simp; omega
          have hle : decide ((s.size : Int) ≤ 32) = true := by simp; omega
          clear h0
          go_wp2_with fail
          go_ret
          exact ⟨by rw [HI.out]; rfl, rfl⟩
        · have HI : Hid (isName s.data.toList = false) := by show _ = _; unfold isName; rw [HF.out, ← Lib.size_eq]; simp; omega
          have hle : decide ((s.size : Int) ≤ 32) = false := by simp; omega
          clear h0
          go_wp2_with fail
          go_ret
          exact ⟨by rw [HI.out]; rfl, rfl⟩
end Go.Proofs.YtppgjkjdddanbaaDoor
