/- xml.name: what it answers, for every text. -/
import Derived.Test.YtppgjkjdddanbaaDoorF1
import Derived.Test.YtppgjkjdddanbaaDoorTn
import Derived.ScopeJumps
import Derived.WalkMore
namespace Go.Proofs.YtppgjkjdddanbaaDoor
open Go.RowKit
open Hb

def nmCh (c : UInt8) : Bool := firstN c.toNat || laterN c.toNat
def nameLen (l : List UInt8) : Nat := (l.takeWhile nmCh).length
def nameOk (s : ByteArray) : Bool := isName (s.data.toList.take (nameLen s.data.toList))
def nameTold (s : ByteArray) : Ending := if nameOk s = true then .returned (.tuple #[.string (s.extract 0 (nameLen s.data.toList)), .string (s.extract (nameLen s.data.toList) s.size)]) else .panicked [{ v := faultV 6, recovered := false }]

theorem nameLen_le (l : List UInt8) : nameLen l ≤ l.length := (List.takeWhile_sublist _).length_le
theorem nameLen_at (s : ByteArray) (k : Nat) (h : k < s.size) : nameLen (s.data.toList.drop k) = if nmCh s[k] = true then nameLen (s.data.toList.drop (k + 1)) + 1 else 0 := by
  rw [show s.data.toList.drop k = s[k] :: s.data.toList.drop (k + 1) from List.drop_eq_getElem_cons (by simpa using h)]
  unfold nameLen
  rw [List.takeWhile_cons]
  split <;> simp
theorem told_at (s : ByteArray) (k : Nat) (h : nameLen s.data.toList = k) : nameTold s = if nameOk s = true then .returned (.tuple #[.string (s.extract 0 k), .string (s.extract k s.size)]) else .panicked [{ v := faultV 6, recovered := false }] := by
  unfold nameTold
  rw [h]
theorem tailName (s : ByteArray) (k : Nat) (hk : k ≤ s.size) (h : nameLen s.data.toList = k) (W : World) (hs : s.size ≤ 9223372036854775806) :
    Calls Tryd.prog 49 #[.string (s.extract 0 k)] W fun e w' => e = .returned (.bool (nameOk s)) ∧ w' = W := by
  have h1 := name_any (s.extract 0 k) W (by rw [ByteArray.size_extract]; omega)
  have h2 : (s.extract 0 k).data.toList = s.data.toList.take k := by
    rw [← take_extract]
  rw [h2] at h1
  unfold nameOk
  rw [h]
  exact h1

set_option maxRecDepth 100000 in
set_option maxHeartbeats 8000000 in
theorem xname_any (s : ByteArray) (w : World) (hs : s.size ≤ 9223372036854775806) :
    Calls Tryd.prog 36 #[.string s] w fun e w' => e = nameTold s ∧ ∃ n, w' = w.drewN n := by
  go_enter Tryd.func36, Tryd.ntmps36
  go_wp2_with fail
  go_step3
  go_wp2_with fail
  go_step3
  go_wp2_with fail
  go_loop [4] (fun i => ∃ k : Nat, k ≤ s.size ∧ i = .int .i64 k ∧ Hid (nameLen s.data.toList = k + nameLen (s.data.toList.drop k))) (fun i => s.size - (intOf i).toNat)
  case atStart => exact ⟨0, Nat.zero_le _, rfl, by show _ = _; simp⟩
  case round =>
    obtain ⟨k, hk, rfl, HC⟩ := hrel
    by_cases hlt : k < s.size
    · have hst := nameLen_at s k hlt
      have hc256 := s[k].toNat_lt
      rcases cls s[k].toNat with h | h | h | h | h | h | h | h | h | h | h | h | h
      · have e95 : ((s[k].toNat : Int) == 95) = false := by rw [beq_eq_false_iff_ne]; omega
        have e45 : ((s[k].toNat : Int) == 45) = false := by rw [beq_eq_false_iff_ne]; omega
        have e46 : ((s[k].toNat : Int) == 46) = false := by rw [beq_eq_false_iff_ne]; omega
        have e58 : ((s[k].toNat : Int) == 58) = false := by rw [beq_eq_false_iff_ne]; omega
        have g97 : decide ((97 : Int) ≤ (s[k].toNat : Int)) = false := by simp; omega
        have g65 : decide ((65 : Int) ≤ (s[k].toNat : Int)) = false := by simp; omega
        have g48 : decide ((48 : Int) ≤ (s[k].toNat : Int)) = false := by simp; omega
        have l122 : decide ((s[k].toNat : Int) ≤ 122) = true := by simp; omega
        have l90 : decide ((s[k].toNat : Int) ≤ 90) = true := by simp; omega
        have l57 : decide ((s[k].toNat : Int) ≤ 57) = true := by simp; omega
        have HF : Hid (nameLen s.data.toList = k) := by
          show _ = _
          rw [HC.out, hst, if_neg (by simp [nmCh, firstN, laterN]; omega)]
          rfl
        have HN := Lib.hid (fun W => tailName s k hk HF.out W hs)
        have HT := Lib.hid (told_at s k HF.out)
        have c1 : (0 : Int) ≤ (k : Int) := by omega
        have c2 : (k : Int) ≤ (s.size : Int) := by omega
        clear HF
        clear hst HC
        cases hb : nameOk s with
        | false =>
          rw [hb] at HN HT
          go_wp2_with (first | (go_at_call 49; refine (HN.out _).mono ?_; rintro e w' ⟨rfl, rfl⟩) | (go_at_call 27; refine (must_no 6 _).mono ?_; rintro e w' ⟨rfl, rfl⟩))
          exact ⟨rfl, by rw [HT.out]; rfl, 0, rfl⟩
        | true =>
          rw [hb] at HN HT
          go_wp2_with (first | (go_at_call 49; refine (HN.out _).mono ?_; rintro e w' ⟨rfl, rfl⟩) | (go_at_call 27; refine (must_ok _ _).mono ?_; rintro e w' ⟨rfl, rfl⟩))
          go_region
          all_goals go_wp2
          all_goals rw [Exit.noGoto_ret]
          all_goals go_ret2
          all_goals exact ⟨by rw [HT.out]; rfl, 1, rfl⟩
      · have e95 : ((s[k].toNat : Int) == 95) = false := by rw [beq_eq_false_iff_ne]; omega
        have e45 : ((s[k].toNat : Int) == 45) = true := by rw [beq_iff_eq]; omega
        have e46 : ((s[k].toNat : Int) == 46) = false := by rw [beq_eq_false_iff_ne]; omega
        have e58 : ((s[k].toNat : Int) == 58) = false := by rw [beq_eq_false_iff_ne]; omega
        have g97 : decide ((97 : Int) ≤ (s[k].toNat : Int)) = false := by simp; omega
        have g65 : decide ((65 : Int) ≤ (s[k].toNat : Int)) = false := by simp; omega
        have g48 : decide ((48 : Int) ≤ (s[k].toNat : Int)) = false := by simp; omega
        have l122 : decide ((s[k].toNat : Int) ≤ 122) = true := by simp; omega
        have l90 : decide ((s[k].toNat : Int) ≤ 90) = true := by simp; omega
        have l57 : decide ((s[k].toNat : Int) ≤ 57) = true := by simp; omega
        have HG : Hid (nameLen s.data.toList = (k + 1 : Nat) + nameLen (s.data.toList.drop (k + 1))) := by
          show _ = _
          rw [HC.out, hst, if_pos (by simp [nmCh, firstN, laterN]; omega)]
          omega
        clear hst HC
        go_wp2_with fail
        go_round
        case rel => exact ⟨k + 1, by omega, by go_num, HG⟩
        case measure => simp [intOf]; omega
      · have e95 : ((s[k].toNat : Int) == 95) = false := by rw [beq_eq_false_iff_ne]; omega
        have e45 : ((s[k].toNat : Int) == 45) = false := by rw [beq_eq_false_iff_ne]; omega
        have e46 : ((s[k].toNat : Int) == 46) = true := by rw [beq_iff_eq]; omega
        have e58 : ((s[k].toNat : Int) == 58) = false := by rw [beq_eq_false_iff_ne]; omega
        have g97 : decide ((97 : Int) ≤ (s[k].toNat : Int)) = false := by simp; omega
        have g65 : decide ((65 : Int) ≤ (s[k].toNat : Int)) = false := by simp; omega
        have g48 : decide ((48 : Int) ≤ (s[k].toNat : Int)) = false := by simp; omega
        have l122 : decide ((s[k].toNat : Int) ≤ 122) = true := by simp; omega
        have l90 : decide ((s[k].toNat : Int) ≤ 90) = true := by simp; omega
        have l57 : decide ((s[k].toNat : Int) ≤ 57) = true := by simp; omega
        have HG : Hid (nameLen s.data.toList = (k + 1 : Nat) + nameLen (s.data.toList.drop (k + 1))) := by
          show _ = _
          rw [HC.out, hst, if_pos (by simp [nmCh, firstN, laterN]; omega)]
          omega
        clear hst HC
        go_wp2_with fail
        go_round
        case rel => exact ⟨k + 1, by omega, by go_num, HG⟩
        case measure => simp [intOf]; omega
      · have e95 : ((s[k].toNat : Int) == 95) = false := by rw [beq_eq_false_iff_ne]; omega
        have e45 : ((s[k].toNat : Int) == 45) = false := by rw [beq_eq_false_iff_ne]; omega
        have e46 : ((s[k].toNat : Int) == 46) = false := by rw [beq_eq_false_iff_ne]; omega
        have e58 : ((s[k].toNat : Int) == 58) = false := by rw [beq_eq_false_iff_ne]; omega
        have g97 : decide ((97 : Int) ≤ (s[k].toNat : Int)) = false := by simp; omega
        have g65 : decide ((65 : Int) ≤ (s[k].toNat : Int)) = false := by simp; omega
        have g48 : decide ((48 : Int) ≤ (s[k].toNat : Int)) = false := by simp; omega
        have l122 : decide ((s[k].toNat : Int) ≤ 122) = true := by simp; omega
        have l90 : decide ((s[k].toNat : Int) ≤ 90) = true := by simp; omega
        have l57 : decide ((s[k].toNat : Int) ≤ 57) = true := by simp; omega
        have HF : Hid (nameLen s.data.toList = k) := by
          show _ = _
          rw [HC.out, hst, if_neg (by simp [nmCh, firstN, laterN]; omega)]
          rfl
        have HN := Lib.hid (fun W => tailName s k hk HF.out W hs)
        have HT := Lib.hid (told_at s k HF.out)
        have c1 : (0 : Int) ≤ (k : Int) := by omega
        have c2 : (k : Int) ≤ (s.size : Int) := by omega
        clear HF
        clear hst HC
        cases hb : nameOk s with
        | false =>
          rw [hb] at HN HT
          go_wp2_with (first | (go_at_call 49; refine (HN.out _).mono ?_; rintro e w' ⟨rfl, rfl⟩) | (go_at_call 27; refine (must_no 6 _).mono ?_; rintro e w' ⟨rfl, rfl⟩))
          exact ⟨rfl, by rw [HT.out]; rfl, 0, rfl⟩
        | true =>
          rw [hb] at HN HT
          go_wp2_with (first | (go_at_call 49; refine (HN.out _).mono ?_; rintro e w' ⟨rfl, rfl⟩) | (go_at_call 27; refine (must_ok _ _).mono ?_; rintro e w' ⟨rfl, rfl⟩))
          go_region
          all_goals go_wp2
          all_goals rw [Exit.noGoto_ret]
          all_goals go_ret2
          all_goals exact ⟨by rw [HT.out]; rfl, 1, rfl⟩
      · have e95 : ((s[k].toNat : Int) == 95) = false := by rw [beq_eq_false_iff_ne]; omega
        have e45 : ((s[k].toNat : Int) == 45) = false := by rw [beq_eq_false_iff_ne]; omega
        have e46 : ((s[k].toNat : Int) == 46) = false := by rw [beq_eq_false_iff_ne]; omega
        have e58 : ((s[k].toNat : Int) == 58) = false := by rw [beq_eq_false_iff_ne]; omega
        have g97 : decide ((97 : Int) ≤ (s[k].toNat : Int)) = false := by simp; omega
        have g65 : decide ((65 : Int) ≤ (s[k].toNat : Int)) = false := by simp; omega
        have g48 : decide ((48 : Int) ≤ (s[k].toNat : Int)) = true := by simp; omega
        have l122 : decide ((s[k].toNat : Int) ≤ 122) = true := by simp; omega
        have l90 : decide ((s[k].toNat : Int) ≤ 90) = true := by simp; omega
        have l57 : decide ((s[k].toNat : Int) ≤ 57) = true := by simp; omega
        have HG : Hid (nameLen s.data.toList = (k + 1 : Nat) + nameLen (s.data.toList.drop (k + 1))) := by
          show _ = _
          rw [HC.out, hst, if_pos (by simp [nmCh, firstN, laterN]; omega)]
          omega
        clear hst HC
        go_wp2_with fail
        go_round
        case rel => exact ⟨k + 1, by omega, by go_num, HG⟩
        case measure => simp [intOf]; omega
      · have e95 : ((s[k].toNat : Int) == 95) = false := by rw [beq_eq_false_iff_ne]; omega
        have e45 : ((s[k].toNat : Int) == 45) = false := by rw [beq_eq_false_iff_ne]; omega
        have e46 : ((s[k].toNat : Int) == 46) = false := by rw [beq_eq_false_iff_ne]; omega
        have e58 : ((s[k].toNat : Int) == 58) = true := by rw [beq_iff_eq]; omega
        have g97 : decide ((97 : Int) ≤ (s[k].toNat : Int)) = false := by simp; omega
        have g65 : decide ((65 : Int) ≤ (s[k].toNat : Int)) = false := by simp; omega
        have g48 : decide ((48 : Int) ≤ (s[k].toNat : Int)) = true := by simp; omega
        have l122 : decide ((s[k].toNat : Int) ≤ 122) = true := by simp; omega
        have l90 : decide ((s[k].toNat : Int) ≤ 90) = true := by simp; omega
        have l57 : decide ((s[k].toNat : Int) ≤ 57) = false := by simp; omega
        have HG : Hid (nameLen s.data.toList = (k + 1 : Nat) + nameLen (s.data.toList.drop (k + 1))) := by
          show _ = _
          rw [HC.out, hst, if_pos (by simp [nmCh, firstN, laterN]; omega)]
          omega
        clear hst HC
        go_wp2_with fail
        go_round
        case rel => exact ⟨k + 1, by omega, by go_num, HG⟩
        case measure => simp [intOf]; omega
      · have e95 : ((s[k].toNat : Int) == 95) = false := by rw [beq_eq_false_iff_ne]; omega
        have e45 : ((s[k].toNat : Int) == 45) = false := by rw [beq_eq_false_iff_ne]; omega
        have e46 : ((s[k].toNat : Int) == 46) = false := by rw [beq_eq_false_iff_ne]; omega
        have e58 : ((s[k].toNat : Int) == 58) = false := by rw [beq_eq_false_iff_ne]; omega
        have g97 : decide ((97 : Int) ≤ (s[k].toNat : Int)) = false := by simp; omega
        have g65 : decide ((65 : Int) ≤ (s[k].toNat : Int)) = false := by simp; omega
        have g48 : decide ((48 : Int) ≤ (s[k].toNat : Int)) = true := by simp; omega
        have l122 : decide ((s[k].toNat : Int) ≤ 122) = true := by simp; omega
        have l90 : decide ((s[k].toNat : Int) ≤ 90) = true := by simp; omega
        have l57 : decide ((s[k].toNat : Int) ≤ 57) = false := by simp; omega
        have HF : Hid (nameLen s.data.toList = k) := by
          show _ = _
          rw [HC.out, hst, if_neg (by simp [nmCh, firstN, laterN]; omega)]
          rfl
        have HN := Lib.hid (fun W => tailName s k hk HF.out W hs)
        have HT := Lib.hid (told_at s k HF.out)
        have c1 : (0 : Int) ≤ (k : Int) := by omega
        have c2 : (k : Int) ≤ (s.size : Int) := by omega
        clear HF
        clear hst HC
        cases hb : nameOk s with
        | false =>
          rw [hb] at HN HT
          go_wp2_with (first | (go_at_call 49; refine (HN.out _).mono ?_; rintro e w' ⟨rfl, rfl⟩) | (go_at_call 27; refine (must_no 6 _).mono ?_; rintro e w' ⟨rfl, rfl⟩))
          exact ⟨rfl, by rw [HT.out]; rfl, 0, rfl⟩
        | true =>
          rw [hb] at HN HT
          go_wp2_with (first | (go_at_call 49; refine (HN.out _).mono ?_; rintro e w' ⟨rfl, rfl⟩) | (go_at_call 27; refine (must_ok _ _).mono ?_; rintro e w' ⟨rfl, rfl⟩))
          go_region
          all_goals go_wp2
          all_goals rw [Exit.noGoto_ret]
          all_goals go_ret2
          all_goals exact ⟨by rw [HT.out]; rfl, 1, rfl⟩
      · have e95 : ((s[k].toNat : Int) == 95) = false := by rw [beq_eq_false_iff_ne]; omega
        have e45 : ((s[k].toNat : Int) == 45) = false := by rw [beq_eq_false_iff_ne]; omega
        have e46 : ((s[k].toNat : Int) == 46) = false := by rw [beq_eq_false_iff_ne]; omega
        have e58 : ((s[k].toNat : Int) == 58) = false := by rw [beq_eq_false_iff_ne]; omega
        have g97 : decide ((97 : Int) ≤ (s[k].toNat : Int)) = false := by simp; omega
        have g65 : decide ((65 : Int) ≤ (s[k].toNat : Int)) = true := by simp; omega
        have g48 : decide ((48 : Int) ≤ (s[k].toNat : Int)) = true := by simp; omega
        have l122 : decide ((s[k].toNat : Int) ≤ 122) = true := by simp; omega
        have l90 : decide ((s[k].toNat : Int) ≤ 90) = true := by simp; omega
        have l57 : decide ((s[k].toNat : Int) ≤ 57) = false := by simp; omega
        have HG : Hid (nameLen s.data.toList = (k + 1 : Nat) + nameLen (s.data.toList.drop (k + 1))) := by
          show _ = _
          rw [HC.out, hst, if_pos (by simp [nmCh, firstN, laterN]; omega)]
          omega
        clear hst HC
        go_wp2_with fail
        go_round
        case rel => exact ⟨k + 1, by omega, by go_num, HG⟩
        case measure => simp [intOf]; omega
      · have e95 : ((s[k].toNat : Int) == 95) = false := by rw [beq_eq_false_iff_ne]; omega
        have e45 : ((s[k].toNat : Int) == 45) = false := by rw [beq_eq_false_iff_ne]; omega
        have e46 : ((s[k].toNat : Int) == 46) = false := by rw [beq_eq_false_iff_ne]; omega
        have e58 : ((s[k].toNat : Int) == 58) = false := by rw [beq_eq_false_iff_ne]; omega
        have g97 : decide ((97 : Int) ≤ (s[k].toNat : Int)) = false := by simp; omega
        have g65 : decide ((65 : Int) ≤ (s[k].toNat : Int)) = true := by simp; omega
        have g48 : decide ((48 : Int) ≤ (s[k].toNat : Int)) = true := by simp; omega
        have l122 : decide ((s[k].toNat : Int) ≤ 122) = true := by simp; omega
        have l90 : decide ((s[k].toNat : Int) ≤ 90) = false := by simp; omega
        have l57 : decide ((s[k].toNat : Int) ≤ 57) = false := by simp; omega
        have HF : Hid (nameLen s.data.toList = k) := by
          show _ = _
          rw [HC.out, hst, if_neg (by simp [nmCh, firstN, laterN]; omega)]
          rfl
        have HN := Lib.hid (fun W => tailName s k hk HF.out W hs)
        have HT := Lib.hid (told_at s k HF.out)
        have c1 : (0 : Int) ≤ (k : Int) := by omega
        have c2 : (k : Int) ≤ (s.size : Int) := by omega
        clear HF
        clear hst HC
        cases hb : nameOk s with
        | false =>
          rw [hb] at HN HT
          go_wp2_with (first | (go_at_call 49; refine (HN.out _).mono ?_; rintro e w' ⟨rfl, rfl⟩) | (go_at_call 27; refine (must_no 6 _).mono ?_; rintro e w' ⟨rfl, rfl⟩))
          exact ⟨rfl, by rw [HT.out]; rfl, 0, rfl⟩
        | true =>
          rw [hb] at HN HT
          go_wp2_with (first | (go_at_call 49; refine (HN.out _).mono ?_; rintro e w' ⟨rfl, rfl⟩) | (go_at_call 27; refine (must_ok _ _).mono ?_; rintro e w' ⟨rfl, rfl⟩))
          go_region
          all_goals go_wp2
          all_goals rw [Exit.noGoto_ret]
          all_goals go_ret2
          all_goals exact ⟨by rw [HT.out]; rfl, 1, rfl⟩
      · have e95 : ((s[k].toNat : Int) == 95) = true := by rw [beq_iff_eq]; omega
        have e45 : ((s[k].toNat : Int) == 45) = false := by rw [beq_eq_false_iff_ne]; omega
        have e46 : ((s[k].toNat : Int) == 46) = false := by rw [beq_eq_false_iff_ne]; omega
        have e58 : ((s[k].toNat : Int) == 58) = false := by rw [beq_eq_false_iff_ne]; omega
        have g97 : decide ((97 : Int) ≤ (s[k].toNat : Int)) = false := by simp; omega
        have g65 : decide ((65 : Int) ≤ (s[k].toNat : Int)) = true := by simp; omega
        have g48 : decide ((48 : Int) ≤ (s[k].toNat : Int)) = true := by simp; omega
        have l122 : decide ((s[k].toNat : Int) ≤ 122) = true := by simp; omega
        have l90 : decide ((s[k].toNat : Int) ≤ 90) = false := by simp; omega
        have l57 : decide ((s[k].toNat : Int) ≤ 57) = false := by simp; omega
        have HG : Hid (nameLen s.data.toList = (k + 1 : Nat) + nameLen (s.data.toList.drop (k + 1))) := by
          show _ = _
          rw [HC.out, hst, if_pos (by simp [nmCh, firstN, laterN]; omega)]
          omega
        clear hst HC
        go_wp2_with fail
        go_round
        case rel => exact ⟨k + 1, by omega, by go_num, HG⟩
        case measure => simp [intOf]; omega
      · have e95 : ((s[k].toNat : Int) == 95) = false := by rw [beq_eq_false_iff_ne]; omega
        have e45 : ((s[k].toNat : Int) == 45) = false := by rw [beq_eq_false_iff_ne]; omega
        have e46 : ((s[k].toNat : Int) == 46) = false := by rw [beq_eq_false_iff_ne]; omega
        have e58 : ((s[k].toNat : Int) == 58) = false := by rw [beq_eq_false_iff_ne]; omega
        have g97 : decide ((97 : Int) ≤ (s[k].toNat : Int)) = false := by simp; omega
        have g65 : decide ((65 : Int) ≤ (s[k].toNat : Int)) = true := by simp; omega
        have g48 : decide ((48 : Int) ≤ (s[k].toNat : Int)) = true := by simp; omega
        have l122 : decide ((s[k].toNat : Int) ≤ 122) = true := by simp; omega
        have l90 : decide ((s[k].toNat : Int) ≤ 90) = false := by simp; omega
        have l57 : decide ((s[k].toNat : Int) ≤ 57) = false := by simp; omega
        have HF : Hid (nameLen s.data.toList = k) := by
          show _ = _
          rw [HC.out, hst, if_neg (by simp [nmCh, firstN, laterN]; omega)]
          rfl
        have HN := Lib.hid (fun W => tailName s k hk HF.out W hs)
        have HT := Lib.hid (told_at s k HF.out)
        have c1 : (0 : Int) ≤ (k : Int) := by omega
        have c2 : (k : Int) ≤ (s.size : Int) := by omega
        clear HF
        clear hst HC
        cases hb : nameOk s with
        | false =>
          rw [hb] at HN HT
          go_wp2_with (first | (go_at_call 49; refine (HN.out _).mono ?_; rintro e w' ⟨rfl, rfl⟩) | (go_at_call 27; refine (must_no 6 _).mono ?_; rintro e w' ⟨rfl, rfl⟩))
          exact ⟨rfl, by rw [HT.out]; rfl, 0, rfl⟩
        | true =>
          rw [hb] at HN HT
          go_wp2_with (first | (go_at_call 49; refine (HN.out _).mono ?_; rintro e w' ⟨rfl, rfl⟩) | (go_at_call 27; refine (must_ok _ _).mono ?_; rintro e w' ⟨rfl, rfl⟩))
          go_region
          all_goals go_wp2
          all_goals rw [Exit.noGoto_ret]
          all_goals go_ret2
          all_goals exact ⟨by rw [HT.out]; rfl, 1, rfl⟩
      · have e95 : ((s[k].toNat : Int) == 95) = false := by rw [beq_eq_false_iff_ne]; omega
        have e45 : ((s[k].toNat : Int) == 45) = false := by rw [beq_eq_false_iff_ne]; omega
        have e46 : ((s[k].toNat : Int) == 46) = false := by rw [beq_eq_false_iff_ne]; omega
        have e58 : ((s[k].toNat : Int) == 58) = false := by rw [beq_eq_false_iff_ne]; omega
        have g97 : decide ((97 : Int) ≤ (s[k].toNat : Int)) = true := by simp; omega
        have g65 : decide ((65 : Int) ≤ (s[k].toNat : Int)) = true := by simp; omega
        have g48 : decide ((48 : Int) ≤ (s[k].toNat : Int)) = true := by simp; omega
        have l122 : decide ((s[k].toNat : Int) ≤ 122) = true := by simp; omega
        have l90 : decide ((s[k].toNat : Int) ≤ 90) = false := by simp; omega
        have l57 : decide ((s[k].toNat : Int) ≤ 57) = false := by simp; omega
        have HG : Hid (nameLen s.data.toList = (k + 1 : Nat) + nameLen (s.data.toList.drop (k + 1))) := by
          show _ = _
          rw [HC.out, hst, if_pos (by simp [nmCh, firstN, laterN]; omega)]
          omega
        clear hst HC
        go_wp2_with fail
        go_round
        case rel => exact ⟨k + 1, by omega, by go_num, HG⟩
        case measure => simp [intOf]; omega
      · have e95 : ((s[k].toNat : Int) == 95) = false := by rw [beq_eq_false_iff_ne]; omega
        have e45 : ((s[k].toNat : Int) == 45) = false := by rw [beq_eq_false_iff_ne]; omega
        have e46 : ((s[k].toNat : Int) == 46) = false := by rw [beq_eq_false_iff_ne]; omega
        have e58 : ((s[k].toNat : Int) == 58) = false := by rw [beq_eq_false_iff_ne]; omega
        have g97 : decide ((97 : Int) ≤ (s[k].toNat : Int)) = true := by simp; omega
        have g65 : decide ((65 : Int) ≤ (s[k].toNat : Int)) = true := by simp; omega
        have g48 : decide ((48 : Int) ≤ (s[k].toNat : Int)) = true := by simp; omega
        have l122 : decide ((s[k].toNat : Int) ≤ 122) = false := by simp; omega
        have l90 : decide ((s[k].toNat : Int) ≤ 90) = false := by simp; omega
        have l57 : decide ((s[k].toNat : Int) ≤ 57) = false := by simp; omega
        have HF : Hid (nameLen s.data.toList = k) := by
          show _ = _
          rw [HC.out, hst, if_neg (by simp [nmCh, firstN, laterN]; omega)]
          rfl
        have HN := Lib.hid (fun W => tailName s k hk HF.out W hs)
        have HT := Lib.hid (told_at s k HF.out)
        have c1 : (0 : Int) ≤ (k : Int) := by omega
        have c2 : (k : Int) ≤ (s.size : Int) := by omega
        clear HF
        clear hst HC
        cases hb : nameOk s with
        | false =>
          rw [hb] at HN HT
          go_wp2_with (first | (go_at_call 49; refine (HN.out _).mono ?_; rintro e w' ⟨rfl, rfl⟩) | (go_at_call 27; refine (must_no 6 _).mono ?_; rintro e w' ⟨rfl, rfl⟩))
          exact ⟨rfl, by rw [HT.out]; rfl, 0, rfl⟩
        | true =>
          rw [hb] at HN HT
          go_wp2_with (first | (go_at_call 49; refine (HN.out _).mono ?_; rintro e w' ⟨rfl, rfl⟩) | (go_at_call 27; refine (must_ok _ _).mono ?_; rintro e w' ⟨rfl, rfl⟩))
          go_region
          all_goals go_wp2
          all_goals rw [Exit.noGoto_ret]
          all_goals go_ret2
          all_goals exact ⟨by rw [HT.out]; rfl, 1, rfl⟩
    · have HF : Hid (nameLen s.data.toList = k) := by
        show _ = _
        rw [HC.out, List.drop_eq_nil_of_le (by rw [← Lib.size_eq]; omega)]
        rfl
      have HN := Lib.hid (fun W => tailName s k hk HF.out W hs)
      have HT := Lib.hid (told_at s k HF.out)
      have c1 : (0 : Int) ≤ (k : Int) := by omega
      have c2 : (k : Int) ≤ (s.size : Int) := by omega
      clear HC HF 
      cases hb : nameOk s with
      | false =>
        rw [hb] at HN HT
        go_wp2_with (first | (go_at_call 49; refine (HN.out _).mono ?_; rintro e w' ⟨rfl, rfl⟩) | (go_at_call 27; refine (must_no 6 _).mono ?_; rintro e w' ⟨rfl, rfl⟩))
        exact ⟨rfl, by rw [HT.out]; rfl, 0, rfl⟩
      | true =>
        rw [hb] at HN HT
        go_wp2_with (first | (go_at_call 49; refine (HN.out _).mono ?_; rintro e w' ⟨rfl, rfl⟩) | (go_at_call 27; refine (must_ok _ _).mono ?_; rintro e w' ⟨rfl, rfl⟩))
        go_region
        all_goals go_wp2
        all_goals rw [Exit.noGoto_ret]
        all_goals go_ret2
        all_goals exact ⟨by rw [HT.out]; rfl, 1, rfl⟩
end Go.Proofs.YtppgjkjdddanbaaDoor
