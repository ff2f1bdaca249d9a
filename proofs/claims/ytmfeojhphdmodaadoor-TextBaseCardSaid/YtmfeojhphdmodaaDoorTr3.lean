/- The reference of Base64: what it answers, for every text. -/
import Derived.Test.YtmfeojhphdmodaaDoorTp
import Derived.Test.YtmfeojhphdmodaaDoorTx3
import Derived.Test.YtmfeojhphdmodaaDoorTr1
namespace Go.Proofs.YtmfeojhphdmodaaDoor
open Go.RowKit
open Hb

theorem wraps_i64 (n : Int) (h₀ : 0 ≤ n) (h₁ : n < 2 ^ 63) : IntKind.i64.wrap n = n := by rw [IntKind.wrap_i64]; omega
theorem mask63i (m : Int) (h0 : 0 ≤ m) (h1 : m < 4294967296) : Go.bits .and .i64 m 63 = m % 64 := bits_mask .i64 63 (by decide) wraps_i64 6 (by decide) m h0 (by omega)
theorem dig_one (m : Nat) (h : m < 64) : (ByteArray.mk #[65, 66, 67, 68, 69, 70, 71, 72, 73, 74, 75, 76, 77, 78, 79, 80, 81, 82, 83, 84, 85, 86, 87, 88, 89, 90, 97, 98, 99, 100, 101, 102, 103, 104, 105, 106, 107, 108, 109, 110, 111, 112, 113, 114, 115, 116, 117, 118, 119, 120, 121, 122, 48, 49, 50, 51, 52, 53, 54, 55, 56, 57, 43, 47]).extract m (m + 1) = ⟨#[dig m]⟩ := by
  have h2 : m < (ByteArray.mk #[65, 66, 67, 68, 69, 70, 71, 72, 73, 74, 75, 76, 77, 78, 79, 80, 81, 82, 83, 84, 85, 86, 87, 88, 89, 90, 97, 98, 99, 100, 101, 102, 103, 104, 105, 106, 107, 108, 109, 110, 111, 112, 113, 114, 115, 116, 117, 118, 119, 120, 121, 122, 48, 49, 50, 51, 52, 53, 54, 55, 56, 57, 43, 47]).size := h
  rw [one_at _ m h2, dig_at m h2]
theorem dig_slice (m : Int) (h0 : 0 ≤ m) (h : m < 64) (W : World) : (Instr.slice 9 (.string ⟨#[65, 66, 67, 68, 69, 70, 71, 72, 73, 74, 75, 76, 77, 78, 79, 80, 81, 82, 83, 84, 85, 86, 87, 88, 89, 90, 97, 98, 99, 100, 101, 102, 103, 104, 105, 106, 107, 108, 109, 110, 111, 112, 113, 114, 115, 116, 117, 118, 119, 120, 121, 122, 48, 49, 50, 51, 52, 53, 54, 55, 56, 57, 43, 47]⟩) (some (.int .i64 m)) (some (.int .i64 (m + 1))) none).run Tryd.prog W = .ok (.string ⟨#[dig m.toNat]⟩) W := by
  have e : ((ByteArray.mk #[65, 66, 67, 68, 69, 70, 71, 72, 73, 74, 75, 76, 77, 78, 79, 80, 81, 82, 83, 84, 85, 86, 87, 88, 89, 90, 97, 98, 99, 100, 101, 102, 103, 104, 105, 106, 107, 108, 109, 110, 111, 112, 113, 114, 115, 116, 117, 118, 119, 120, 121, 122, 48, 49, 50, 51, 52, 53, 54, 55, 56, 57, 43, 47]).size : Int) = 64 := rfl
  have := run_slice_string (P := Tryd.prog) W 9 ⟨#[65, 66, 67, 68, 69, 70, 71, 72, 73, 74, 75, 76, 77, 78, 79, 80, 81, 82, 83, 84, 85, 86, 87, 88, 89, 90, 97, 98, 99, 100, 101, 102, 103, 104, 105, 106, 107, 108, 109, 110, 111, 112, 113, 114, 115, 116, 117, 118, 119, 120, 121, 122, 48, 49, 50, 51, 52, 53, 54, 55, 56, 57, 43, 47]⟩ .i64 .i64 m (m + 1) Tryd.underlying9 h0 (by omega) (by rw [e]; omega)
  rw [show (m + 1).toNat = m.toNat + 1 by omega, dig_one m.toNat (by omega)] at this
  exact this
theorem b64_one (L : List UInt8) (k : Nat) (h : k + 1 = L.length) : b64 (L.drop k) = four 1 ((L[k]'(by omega)).toNat * 65536) ++ b64 (L.drop (k + 3)) := by
  rw [List.drop_eq_getElem_cons (show k < L.length by omega), List.drop_eq_nil_of_le (show L.length ≤ k + 1 by omega), List.drop_eq_nil_of_le (show L.length ≤ k + 3 by omega)]
  simp [b64]
theorem b64_two (L : List UInt8) (k : Nat) (h : k + 2 = L.length) : b64 (L.drop k) = four 2 ((L[k]'(by omega)).toNat * 65536 + (L[k + 1]'(by omega)).toNat * 256) ++ b64 (L.drop (k + 3)) := by
  rw [List.drop_eq_getElem_cons (show k < L.length by omega), List.drop_eq_getElem_cons (show k + 1 < L.length by omega), List.drop_eq_nil_of_le (show L.length ≤ k + 1 + 1 by omega), List.drop_eq_nil_of_le (show L.length ≤ k + 3 by omega)]
  simp [b64]
theorem b64_three (L : List UInt8) (k : Nat) (h : k + 2 < L.length) : b64 (L.drop k) = four 3 ((L[k]'(by omega)).toNat * 65536 + (L[k + 1]'(by omega)).toNat * 256 + (L[k + 2]'(by omega)).toNat) ++ b64 (L.drop (k + 3)) := by
  rw [List.drop_eq_getElem_cons (show k < L.length by omega), List.drop_eq_getElem_cons (show k + 1 < L.length by omega), List.drop_eq_getElem_cons (show k + 1 + 1 < L.length by omega)]
  simp [b64]
theorem mk_size (a : List UInt8) : (ByteArray.mk a.toArray).size = a.length := by simp [ByteArray.size]
theorem cat_one (pre q : List UInt8) (c : UInt8) : (ByteArray.mk (pre ++ q).toArray ++ ByteArray.mk #[c]) = ByteArray.mk (pre ++ (q ++ [c])).toArray := by
  rw [← List.append_assoc]; exact cat_mk (pre ++ q) [c]
theorem data_at (s : ByteArray) (k : Nat) (h : k < s.size) : s.data.toList[k]'(by rw [← Lib.size_eq]; exact h) = s[k] := by rfl

set_option maxHeartbeats 8000000 in
theorem refBase64_any (s : ByteArray) (w : World) (hs : s.size ≤ 1099511627776) :
    Calls Tryd.prog 20 #[.string s] w fun e w' => e = .returned (.string ⟨(b64 s.data.toList).toArray⟩) ∧ w' = w := by
  go_enter Tryd.func20, Tryd.ntmps20
  go_wp2_with fail
  go_loop [3, 4] (fun o i => ∃ (k : Nat) (pre : List UInt8), k ≤ s.size + 2 ∧ pre.length ≤ 4 * k ∧ i = .int .i64 k ∧ o = .string ⟨pre.toArray⟩ ∧ Hid (b64 s.data.toList = pre ++ b64 (s.data.toList.drop k))) (fun _ i => s.size + 3 - (intOf i).toNat)
  case atStart => exact ⟨0, [], Nat.zero_le _, Nat.le_refl _, rfl, rfl, by show _ = _; simp⟩
  case round =>
    obtain ⟨k, pre, hk, hpl, rfl, rfl, HC⟩ := hrel
    by_cases hlt : k < s.size
    · have hLs : s.data.toList.length = s.size := (Lib.size_eq s).symm
      rcases (by omega : k + 1 = s.size ∨ k + 2 = s.size ∨ k + 2 < s.size) with hr | hr | hr
      · have hb := b64_one s.data.toList k (by omega)
        rw [data_at s k (by omega)] at hb
        have hx0 := (s[k]'(by omega)).toNat_lt
        obtain ⟨x, hx⟩ : ∃ x : Nat, (s[k]'(by omega)).toNat = x := ⟨_, rfl⟩
        rw [hx] at hb
        rw [hx] at hx0
        obtain ⟨g, hg⟩ : ∃ g : Nat, x * 65536 = g := ⟨_, rfl⟩
        rw [hg] at hb
        have HB := Lib.hid hb
        clear hb
        have hg24 : g < 16777216 := by omega
        have HGG := Lib.hid hg
        go_wp2_with fail
        go_loop [5, 6, 7] (fun n m j => (j = .int .i64 0 ∧ n = .int .i64 0 ∧ m = .int .i64 0) ∨ (j = .int .i64 1 ∧ n = .int .i64 (x : Int) ∧ m = .int .i64 1) ∨ (j = .int .i64 2 ∧ n = .int .i64 ((x : Int) * 256) ∧ m = .int .i64 1) ∨ (j = .int .i64 3 ∧ n = .int .i64 (g : Int) ∧ m = .int .i64 1)) (fun _ _ j => 3 - (intOf j).toNat)
        case atStart => exact Or.inl ⟨rfl, rfl, rfl⟩
        case round =>
          rcases hrel with ⟨rfl, rfl, rfl⟩ | ⟨rfl, rfl, rfl⟩ | ⟨rfl, rfl, rfl⟩ | ⟨rfl, rfl, rfl⟩
          · go_wp2_with fail
            go_round
            case rel => exact Or.inr (Or.inl ⟨rfl, by first | rfl | (congr 1; omega), rfl⟩)
            case measure => simp [intOf]
          · go_wp2_with fail
            go_round
            case rel => exact Or.inr (Or.inr (Or.inl ⟨rfl, by first | rfl | (congr 1; omega), rfl⟩))
            case measure => simp [intOf]
          · go_wp2_with fail
            go_round
            case rel => exact Or.inr (Or.inr (Or.inr ⟨rfl, by first | rfl | (congr 1; omega), rfl⟩))
            case measure => simp [intOf]
          · clear hg HGG hx0 hx
            go_wp2_with fail
            go_loop [3, 8] (fun o j => (j = .int .i64 0 ∧ o = .string ⟨(pre ++ []).toArray⟩) ∨ (j = .int .i64 1 ∧ o = .string ⟨(pre ++ [dig (g / 262144 % 64)]).toArray⟩) ∨ (j = .int .i64 2 ∧ o = .string ⟨(pre ++ [dig (g / 262144 % 64), dig (g / 4096 % 64)]).toArray⟩) ∨ (j = .int .i64 3 ∧ o = .string ⟨(pre ++ [dig (g / 262144 % 64), dig (g / 4096 % 64), 61]).toArray⟩) ∨ (j = .int .i64 4 ∧ o = .string ⟨(pre ++ [dig (g / 262144 % 64), dig (g / 4096 % 64), 61, 61]).toArray⟩)) (fun _ j => 4 - (intOf j).toNat)
            case atStart => exact Or.inl ⟨rfl, by rw [List.append_nil]⟩
            case round =>
              rcases hrel with ⟨rfl, rfl⟩ | ⟨rfl, rfl⟩ | ⟨rfl, rfl⟩ | ⟨rfl, rfl⟩ | ⟨rfl, rfl⟩
              · have d0 := mask63i ((g : Int) / 262144) (by omega) (by omega)
                have d1 := dig_slice ((g : Int) / 262144 % 64) (by omega) (by omega)
                rw [show ((g : Int) / 262144 % 64).toNat = g / 262144 % 64 by omega] at d1
                have hz : (ByteArray.mk (pre ++ []).toArray).size ≤ 5000000000000 := by rw [mk_size]; simp; omega
                have hc := cat_one pre [] (dig (g / 262144 % 64))
                go_wp2_with fail
                go_round
                case rel => exact Or.inr (Or.inl ⟨rfl, rfl⟩)
                case measure => simp [intOf]
              · have d0 := mask63i ((g : Int) / 4096) (by omega) (by omega)
                have d1 := dig_slice ((g : Int) / 4096 % 64) (by omega) (by omega)
                rw [show ((g : Int) / 4096 % 64).toNat = g / 4096 % 64 by omega] at d1
                have hz : (ByteArray.mk (pre ++ [dig (g / 262144 % 64)]).toArray).size ≤ 5000000000000 := by rw [mk_size]; simp; omega
                have hc := cat_one pre [dig (g / 262144 % 64)] (dig (g / 4096 % 64))
                go_wp2_with fail
                go_round
                case rel => exact Or.inr (Or.inr (Or.inl ⟨rfl, rfl⟩))
                case measure => simp [intOf]
              · have hz : (ByteArray.mk (pre ++ [dig (g / 262144 % 64), dig (g / 4096 % 64)]).toArray).size ≤ 5000000000000 := by rw [mk_size]; simp; omega
                have hc := cat_one pre [dig (g / 262144 % 64), dig (g / 4096 % 64)] (61)
                go_wp2_with fail
                go_round
                case rel => exact Or.inr (Or.inr (Or.inr (Or.inl ⟨rfl, rfl⟩)))
                case measure => simp [intOf]
              · have hz : (ByteArray.mk (pre ++ [dig (g / 262144 % 64), dig (g / 4096 % 64), 61]).toArray).size ≤ 5000000000000 := by rw [mk_size]; simp; omega
                have hc := cat_one pre [dig (g / 262144 % 64), dig (g / 4096 % 64), 61] (61)
                go_wp2_with fail
                go_round
                case rel => exact Or.inr (Or.inr (Or.inr (Or.inr (⟨rfl, rfl⟩))))
                case measure => simp [intOf]
              · go_wp2_with fail
                go_round
                case rel => exact ⟨k + 3, pre ++ [dig (g / 262144 % 64), dig (g / 4096 % 64), 61, 61], by omega, by simp; omega, by go_num, rfl, by show _ = _; rw [HC.out, HB.out, List.append_assoc]; rfl⟩
                case measure => simp [intOf]; omega
      · have hb := b64_two s.data.toList k (by omega)
        rw [data_at s k (by omega), data_at s (k + 1) (by omega)] at hb
        have hx0 := (s[k]'(by omega)).toNat_lt
        have hx1 := (s[k + 1]'(by omega)).toNat_lt
        obtain ⟨x, hx⟩ : ∃ x : Nat, (s[k]'(by omega)).toNat = x := ⟨_, rfl⟩
        obtain ⟨y, hy⟩ : ∃ y : Nat, (s[k + 1]'(by omega)).toNat = y := ⟨_, rfl⟩
        rw [hx, hy] at hb
        rw [hx] at hx0; rw [hy] at hx1
        obtain ⟨g, hg⟩ : ∃ g : Nat, x * 65536 + y * 256 = g := ⟨_, rfl⟩
        rw [hg] at hb
        have HB := Lib.hid hb
        clear hb
        have hg24 : g < 16777216 := by omega
        have HGG := Lib.hid hg
        go_wp2_with fail
        go_loop [5, 6, 7] (fun n m j => (j = .int .i64 0 ∧ n = .int .i64 0 ∧ m = .int .i64 0) ∨ (j = .int .i64 1 ∧ n = .int .i64 (x : Int) ∧ m = .int .i64 1) ∨ (j = .int .i64 2 ∧ n = .int .i64 ((x : Int) * 256 + (y : Int)) ∧ m = .int .i64 2) ∨ (j = .int .i64 3 ∧ n = .int .i64 (g : Int) ∧ m = .int .i64 2)) (fun _ _ j => 3 - (intOf j).toNat)
        case atStart => exact Or.inl ⟨rfl, rfl, rfl⟩
        case round =>
          rcases hrel with ⟨rfl, rfl, rfl⟩ | ⟨rfl, rfl, rfl⟩ | ⟨rfl, rfl, rfl⟩ | ⟨rfl, rfl, rfl⟩
          · go_wp2_with fail
            go_round
            case rel => exact Or.inr (Or.inl ⟨rfl, by first | rfl | (congr 1; omega), rfl⟩)
            case measure => simp [intOf]
          · go_wp2_with fail
            go_round
            case rel => exact Or.inr (Or.inr (Or.inl ⟨rfl, by first | rfl | (congr 1; omega), rfl⟩))
            case measure => simp [intOf]
          · go_wp2_with fail
            go_round
            case rel => exact Or.inr (Or.inr (Or.inr ⟨rfl, by first | rfl | (congr 1; omega), rfl⟩))
            case measure => simp [intOf]
          · clear hg HGG hx0 hx hx1 hy
            go_wp2_with fail
            go_loop [3, 8] (fun o j => (j = .int .i64 0 ∧ o = .string ⟨(pre ++ []).toArray⟩) ∨ (j = .int .i64 1 ∧ o = .string ⟨(pre ++ [dig (g / 262144 % 64)]).toArray⟩) ∨ (j = .int .i64 2 ∧ o = .string ⟨(pre ++ [dig (g / 262144 % 64), dig (g / 4096 % 64)]).toArray⟩) ∨ (j = .int .i64 3 ∧ o = .string ⟨(pre ++ [dig (g / 262144 % 64), dig (g / 4096 % 64), dig (g / 64 % 64)]).toArray⟩) ∨ (j = .int .i64 4 ∧ o = .string ⟨(pre ++ [dig (g / 262144 % 64), dig (g / 4096 % 64), dig (g / 64 % 64), 61]).toArray⟩)) (fun _ j => 4 - (intOf j).toNat)
            case atStart => exact Or.inl ⟨rfl, by rw [List.append_nil]⟩
            case round =>
              rcases hrel with ⟨rfl, rfl⟩ | ⟨rfl, rfl⟩ | ⟨rfl, rfl⟩ | ⟨rfl, rfl⟩ | ⟨rfl, rfl⟩
              · have d0 := mask63i ((g : Int) / 262144) (by omega) (by omega)
                have d1 := dig_slice ((g : Int) / 262144 % 64) (by omega) (by omega)
                rw [show ((g : Int) / 262144 % 64).toNat = g / 262144 % 64 by omega] at d1
                have hz : (ByteArray.mk (pre ++ []).toArray).size ≤ 5000000000000 := by rw [mk_size]; simp; omega
                have hc := cat_one pre [] (dig (g / 262144 % 64))
                go_wp2_with fail
                go_round
                case rel => exact Or.inr (Or.inl ⟨rfl, rfl⟩)
                case measure => simp [intOf]
              · have d0 := mask63i ((g : Int) / 4096) (by omega) (by omega)
                have d1 := dig_slice ((g : Int) / 4096 % 64) (by omega) (by omega)
                rw [show ((g : Int) / 4096 % 64).toNat = g / 4096 % 64 by omega] at d1
                have hz : (ByteArray.mk (pre ++ [dig (g / 262144 % 64)]).toArray).size ≤ 5000000000000 := by rw [mk_size]; simp; omega
                have hc := cat_one pre [dig (g / 262144 % 64)] (dig (g / 4096 % 64))
                go_wp2_with fail
                go_round
                case rel => exact Or.inr (Or.inr (Or.inl ⟨rfl, rfl⟩))
                case measure => simp [intOf]
              · have d0 := mask63i ((g : Int) / 64) (by omega) (by omega)
                have d1 := dig_slice ((g : Int) / 64 % 64) (by omega) (by omega)
                rw [show ((g : Int) / 64 % 64).toNat = g / 64 % 64 by omega] at d1
                have hz : (ByteArray.mk (pre ++ [dig (g / 262144 % 64), dig (g / 4096 % 64)]).toArray).size ≤ 5000000000000 := by rw [mk_size]; simp; omega
                have hc := cat_one pre [dig (g / 262144 % 64), dig (g / 4096 % 64)] (dig (g / 64 % 64))
                go_wp2_with fail
                go_round
                case rel => exact Or.inr (Or.inr (Or.inr (Or.inl ⟨rfl, rfl⟩)))
                case measure => simp [intOf]
              · have hz : (ByteArray.mk (pre ++ [dig (g / 262144 % 64), dig (g / 4096 % 64), dig (g / 64 % 64)]).toArray).size ≤ 5000000000000 := by rw [mk_size]; simp; omega
                have hc := cat_one pre [dig (g / 262144 % 64), dig (g / 4096 % 64), dig (g / 64 % 64)] (61)
                go_wp2_with fail
                go_round
                case rel => exact Or.inr (Or.inr (Or.inr (Or.inr (⟨rfl, rfl⟩))))
                case measure => simp [intOf]
              · go_wp2_with fail
                go_round
                case rel => exact ⟨k + 3, pre ++ [dig (g / 262144 % 64), dig (g / 4096 % 64), dig (g / 64 % 64), 61], by omega, by simp; omega, by go_num, rfl, by show _ = _; rw [HC.out, HB.out, List.append_assoc]; rfl⟩
                case measure => simp [intOf]; omega
      · have hb := b64_three s.data.toList k (by omega)
        rw [data_at s k (by omega), data_at s (k + 1) (by omega), data_at s (k + 2) (by omega)] at hb
        have hx0 := (s[k]'(by omega)).toNat_lt
        have hx1 := (s[k + 1]'(by omega)).toNat_lt
        have hx2 := (s[k + 2]'(by omega)).toNat_lt
        obtain ⟨x, hx⟩ : ∃ x : Nat, (s[k]'(by omega)).toNat = x := ⟨_, rfl⟩
        obtain ⟨y, hy⟩ : ∃ y : Nat, (s[k + 1]'(by omega)).toNat = y := ⟨_, rfl⟩
        obtain ⟨z, hz⟩ : ∃ z : Nat, (s[k + 2]'(by omega)).toNat = z := ⟨_, rfl⟩
        rw [hx, hy, hz] at hb
        rw [hx] at hx0; rw [hy] at hx1; rw [hz] at hx2
        obtain ⟨g, hg⟩ : ∃ g : Nat, x * 65536 + y * 256 + z = g := ⟨_, rfl⟩
        rw [hg] at hb
        have HB := Lib.hid hb
        clear hb
        have hg24 : g < 16777216 := by omega
        have HGG := Lib.hid hg
        go_wp2_with fail
        go_loop [5, 6, 7] (fun n m j => (j = .int .i64 0 ∧ n = .int .i64 0 ∧ m = .int .i64 0) ∨ (j = .int .i64 1 ∧ n = .int .i64 (x : Int) ∧ m = .int .i64 1) ∨ (j = .int .i64 2 ∧ n = .int .i64 ((x : Int) * 256 + (y : Int)) ∧ m = .int .i64 2) ∨ (j = .int .i64 3 ∧ n = .int .i64 (g : Int) ∧ m = .int .i64 3)) (fun _ _ j => 3 - (intOf j).toNat)
        case atStart => exact Or.inl ⟨rfl, rfl, rfl⟩
        case round =>
          rcases hrel with ⟨rfl, rfl, rfl⟩ | ⟨rfl, rfl, rfl⟩ | ⟨rfl, rfl, rfl⟩ | ⟨rfl, rfl, rfl⟩
          · go_wp2_with fail
            go_round
            case rel => exact Or.inr (Or.inl ⟨rfl, by first | rfl | (congr 1; omega), rfl⟩)
            case measure => simp [intOf]
          · go_wp2_with fail
            go_round
            case rel => exact Or.inr (Or.inr (Or.inl ⟨rfl, by first | rfl | (congr 1; omega), rfl⟩))
            case measure => simp [intOf]
          · go_wp2_with fail
            go_round
            case rel => exact Or.inr (Or.inr (Or.inr ⟨rfl, by first | rfl | (congr 1; omega), rfl⟩))
            case measure => simp [intOf]
          · clear hg HGG hx0 hx hx1 hy hx2 hz
            go_wp2_with fail
            go_loop [3, 8] (fun o j => (j = .int .i64 0 ∧ o = .string ⟨(pre ++ []).toArray⟩) ∨ (j = .int .i64 1 ∧ o = .string ⟨(pre ++ [dig (g / 262144 % 64)]).toArray⟩) ∨ (j = .int .i64 2 ∧ o = .string ⟨(pre ++ [dig (g / 262144 % 64), dig (g / 4096 % 64)]).toArray⟩) ∨ (j = .int .i64 3 ∧ o = .string ⟨(pre ++ [dig (g / 262144 % 64), dig (g / 4096 % 64), dig (g / 64 % 64)]).toArray⟩) ∨ (j = .int .i64 4 ∧ o = .string ⟨(pre ++ [dig (g / 262144 % 64), dig (g / 4096 % 64), dig (g / 64 % 64), dig (g % 64)]).toArray⟩)) (fun _ j => 4 - (intOf j).toNat)
            case atStart => exact Or.inl ⟨rfl, by rw [List.append_nil]⟩
            case round =>
              rcases hrel with ⟨rfl, rfl⟩ | ⟨rfl, rfl⟩ | ⟨rfl, rfl⟩ | ⟨rfl, rfl⟩ | ⟨rfl, rfl⟩
              · have d0 := mask63i ((g : Int) / 262144) (by omega) (by omega)
                have d1 := dig_slice ((g : Int) / 262144 % 64) (by omega) (by omega)
                rw [show ((g : Int) / 262144 % 64).toNat = g / 262144 % 64 by omega] at d1
                have hz : (ByteArray.mk (pre ++ []).toArray).size ≤ 5000000000000 := by rw [mk_size]; simp; omega
                have hc := cat_one pre [] (dig (g / 262144 % 64))
                go_wp2_with fail
                go_round
                case rel => exact Or.inr (Or.inl ⟨rfl, rfl⟩)
                case measure => simp [intOf]
              · have d0 := mask63i ((g : Int) / 4096) (by omega) (by omega)
                have d1 := dig_slice ((g : Int) / 4096 % 64) (by omega) (by omega)
                rw [show ((g : Int) / 4096 % 64).toNat = g / 4096 % 64 by omega] at d1
                have hz : (ByteArray.mk (pre ++ [dig (g / 262144 % 64)]).toArray).size ≤ 5000000000000 := by rw [mk_size]; simp; omega
                have hc := cat_one pre [dig (g / 262144 % 64)] (dig (g / 4096 % 64))
                go_wp2_with fail
                go_round
                case rel => exact Or.inr (Or.inr (Or.inl ⟨rfl, rfl⟩))
                case measure => simp [intOf]
              · have d0 := mask63i ((g : Int) / 64) (by omega) (by omega)
                have d1 := dig_slice ((g : Int) / 64 % 64) (by omega) (by omega)
                rw [show ((g : Int) / 64 % 64).toNat = g / 64 % 64 by omega] at d1
                have hz : (ByteArray.mk (pre ++ [dig (g / 262144 % 64), dig (g / 4096 % 64)]).toArray).size ≤ 5000000000000 := by rw [mk_size]; simp; omega
                have hc := cat_one pre [dig (g / 262144 % 64), dig (g / 4096 % 64)] (dig (g / 64 % 64))
                go_wp2_with fail
                go_round
                case rel => exact Or.inr (Or.inr (Or.inr (Or.inl ⟨rfl, rfl⟩)))
                case measure => simp [intOf]
              · have d0 := mask63i ((g : Int)) (by omega) (by omega)
                have d1 := dig_slice ((g : Int) % 64) (by omega) (by omega)
                rw [show ((g : Int) % 64).toNat = g % 64 by omega] at d1
                have hz : (ByteArray.mk (pre ++ [dig (g / 262144 % 64), dig (g / 4096 % 64), dig (g / 64 % 64)]).toArray).size ≤ 5000000000000 := by rw [mk_size]; simp; omega
                have hc := cat_one pre [dig (g / 262144 % 64), dig (g / 4096 % 64), dig (g / 64 % 64)] (dig (g % 64))
                go_wp2_with fail
                go_round
                case rel => exact Or.inr (Or.inr (Or.inr (Or.inr (⟨rfl, rfl⟩))))
                case measure => simp [intOf]
              · go_wp2_with fail
                go_round
                case rel => exact ⟨k + 3, pre ++ [dig (g / 262144 % 64), dig (g / 4096 % 64), dig (g / 64 % 64), dig (g % 64)], by omega, by simp; omega, by go_num, rfl, by show _ = _; rw [HC.out, HB.out, List.append_assoc]; rfl⟩
                case measure => simp [intOf]; omega
    · have hf : s.data.toList.drop k = [] := List.drop_eq_nil_of_le (by rw [← Lib.size_eq]; omega)
      have HF : Hid (b64 s.data.toList = pre) := by
        show _ = _
        rw [HC.out, hf]
        simp [b64]
      clear HC hf
      go_wp2_with fail
      go_ret
      exact ⟨by rw [HF.out]; rfl, rfl⟩
end Go.Proofs.YtmfeojhphdmodaaDoor
