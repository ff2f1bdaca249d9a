/- strings.Cut and strings.Contains where what is looked for is one byte: for every text. -/
import Derived.Test.YtkgmpkoamicheaaGreatDoorSh
import Derived.Test.YtkgmpkoamicheaaGreatDoorHb
import Derived.Lib.Hide
import Derived.Lib.CutLaws
import Derived.RegionTactic
import Derived.ChangeAlike
namespace Go.Proofs.YtkgmpkoamicheaaGreatDoor
open Go.RowKit

/-- What stands ahead of the first c, what stands behind it, and whether there is one. -/
def cutAt (c : UInt8) : List UInt8 → List UInt8 × List UInt8 × Bool
  | [] => ([], [], false)
  | b :: l => if b = c then ([], l, true) else (b :: (cutAt c l).1, (cutAt c l).2.1, (cutAt c l).2.2)

theorem idx_cut (c : UInt8) : ∀ l : List UInt8, (Lib.indexByte l c = -1 ∧ cutAt c l = (l, [], false) ∧ c ∉ l) ∨ ∃ i : Nat, i < l.length ∧ Lib.indexByte l c = i ∧ cutAt c l = (l.take i, l.drop (i + 1), true) ∧ c ∉ l.take i ∧ l = l.take i ++ c :: l.drop (i + 1)
  | [] => .inl ⟨rfl, rfl, by simp⟩
  | b :: l => by
    by_cases h : b = c
    · subst h
      exact .inr ⟨0, by simp, by simp [Lib.indexByte], by simp [cutAt], by simp, by simp⟩
    · have hb : (b == c) = false := by simpa using h
      rcases idx_cut c l with ⟨h1, h2, h3⟩ | ⟨i, h0, h1, h2, h3, h4⟩
      · exact .inl ⟨by simp [Lib.indexByte, hb, h1], by simp [cutAt, h, h2], by simp [h3]; exact fun e => h e.symm⟩
      · refine .inr ⟨i + 1, by simpa using h0, ?_, by simp [cutAt, h, h2], ?_, ?_⟩
        · have : ((i : Int) == -1) = false := by rw [beq_eq_false_iff_ne]; omega
          simp [Lib.indexByte, hb, h1, this]
        · simp [h3]; exact fun e => h e.symm
        · simp; exact h4

theorem cutAt_len (c : UInt8) (l : List UInt8) : (cutAt c l).1.length + (cutAt c l).2.1.length + (if (cutAt c l).2.2 = true then 1 else 0) = l.length := by
  rcases idx_cut c l with ⟨_, h, _⟩ | ⟨i, h0, _, h, _⟩
  · simp [h]
  · simp [h]; omega

theorem mk_list (s : ByteArray) : (⟨s.data.toList.toArray⟩ : ByteArray) = s := rfl

theorem take_extract (s : ByteArray) (i : Nat) : (⟨(s.data.toList.take i).toArray⟩ : ByteArray) = s.extract 0 i := by
  rw [Lib.extract_eq]; simp

theorem drop_extract (s : ByteArray) (i : Nat) : (⟨(s.data.toList.drop i).toArray⟩ : ByteArray) = s.extract i s.size := by
  have ht : List.take (s.size - i) (List.drop i s.data.toList) = List.drop i s.data.toList :=
    List.take_of_length_le (by rw [List.length_drop, ← Lib.size_eq]; exact Nat.le_refl _)
  rw [Lib.extract_eq, ht]

set_option maxHeartbeats 1000000 in
theorem slCut_byte (s : ByteArray) (c : UInt8) (w : World) (hs : s.size ≤ 9223372036854775806) :
    Calls Tryz.prog 100 #[.string s, .string ⟨#[c]⟩] w fun e w' => e = .returned (.tuple #[.string ⟨(cutAt c s.data.toList).1.toArray⟩, .string ⟨(cutAt c s.data.toList).2.1.toArray⟩, .bool (cutAt c s.data.toList).2.2]) ∧ ∃ n, w' = w.drewN n := by
  rcases idx_cut c s.data.toList with ⟨h1, h2, _⟩ | ⟨i, h0, h1, h2, _⟩
  · rw [h2]
    clear h2
    have H := Lib.hid h1
    clear h1
    go_enter Tryz.func100, Tryz.ntmps100
    go_wp2_with (go_at_call 146; refine (Tryz.stringslite_Index_one s c _).mono ?_; rintro e w' ⟨rfl, rfl⟩; rw [H.out])
    go_ret3
    exact ⟨rfl, 0, rfl⟩
  · rw [h2, take_extract, drop_extract]
    clear h2
    have H := Lib.hid h1
    clear h1
    have h0' : i < s.size := by simpa using h0
    have c1 : (0 : Int) ≤ ↑i := by omega
    have c2 : (↑i : Int) ≤ ↑s.size := by omega
    have c3 : (0 : Int) ≤ ↑i + 1 := by omega
    have c4 : (↑i + 1 : Int) ≤ ↑s.size := by omega
    go_enter Tryz.func100, Tryz.ntmps100
    go_wp2_with (go_at_call 146; refine (Tryz.stringslite_Index_one s c _).mono ?_; rintro e w' ⟨rfl, rfl⟩; rw [H.out])
    go_region
    all_goals go_wp2
    all_goals go_ret3
    all_goals exact ⟨rfl, 1, rfl⟩

set_option maxHeartbeats 400000 in
theorem cut_byte (s : ByteArray) (c : UInt8) (w : World) (hs : s.size ≤ 9223372036854775806) :
    Calls Tryz.prog 64 #[.string s, .string ⟨#[c]⟩] w fun e w' => e = .returned (.tuple #[.string ⟨(cutAt c s.data.toList).1.toArray⟩, .string ⟨(cutAt c s.data.toList).2.1.toArray⟩, .bool (cutAt c s.data.toList).2.2]) ∧ ∃ n, w' = w.drewN n := by
  have h := slCut_byte s c w hs
  generalize (⟨(cutAt c s.data.toList).1.toArray⟩ : ByteArray) = x at h ⊢
  generalize (⟨(cutAt c s.data.toList).2.1.toArray⟩ : ByteArray) = y at h ⊢
  generalize (cutAt c s.data.toList).2.2 = z at h ⊢
  have H := Lib.hid h
  clear h
  go_enter Tryz.func64, Tryz.ntmps64
  go_wp2_with (go_at_call 100; refine H.out.mono ?_; rintro e w' ⟨rfl, n, rfl⟩)
  go_ret3
  exact ⟨rfl, n, rfl⟩

theorem idx_mem (c : UInt8) (l : List UInt8) : decide (0 ≤ Lib.indexByte l c) = decide (c ∈ l) := by
  rcases idx_cut c l with ⟨h1, _, h3⟩ | ⟨i, h0, h1, _, _, h4⟩
  · rw [h1]; simp [h3]
  · rw [h1]
    have : c ∈ l := by rw [h4]; simp
    simp [this]

theorem contains_byte (s : ByteArray) (c : UInt8) (w : World) :
    Calls Tryz.prog 206 #[.string s, .string ⟨#[c]⟩] w fun e w' => e = .returned (.bool (decide (c ∈ s.data.toList))) ∧ w' = w := by
  have h := Tryz.strings_Contains_one s c w
  rwa [idx_mem] at h
end Go.Proofs.YtkgmpkoamicheaaGreatDoor
