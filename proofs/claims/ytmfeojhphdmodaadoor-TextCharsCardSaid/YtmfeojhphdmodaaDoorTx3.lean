/- text.Base64: what it answers, for every text of at most 2^40 bytes. -/
import Derived.Test.YtmfeojhphdmodaaDoorHb
import Derived.Test.YtmfeojhphdmodaaDoorTx1
import Derived.Lib.Hide
import Derived.Handy
import Derived.Deep.WholeRow
import Derived.Lib.Strings
import Derived.Laws.CopyRow
import Derived.Laws.BitsLemmas
namespace Go.Proofs.YtmfeojhphdmodaaDoor
open Go.RowKit
open Hb

def alpha : List UInt8 := [65, 66, 67, 68, 69, 70, 71, 72, 73, 74, 75, 76, 77, 78, 79, 80, 81, 82, 83, 84, 85, 86, 87, 88, 89, 90, 97, 98, 99, 100, 101, 102, 103, 104, 105, 106, 107, 108, 109, 110, 111, 112, 113, 114, 115, 116, 117, 118, 119, 120, 121, 122, 48, 49, 50, 51, 52, 53, 54, 55, 56, 57, 43, 47]
def dig (n : Nat) : UInt8 := alpha.getD n 0

/-- A group's four digits; n: how many bytes there are. -/
def four (n : Nat) (g : Nat) : List UInt8 := [dig (g / 262144 % 64), dig (g / 4096 % 64), if n < 2 then 61 else dig (g / 64 % 64), if n < 3 then 61 else dig (g % 64)]

def b64 : List UInt8 → List UInt8
  | [] => []
  | [a] => four 1 (a.toNat * 65536)
  | [a, b] => four 2 (a.toNat * 65536 + b.toNat * 256)
  | a :: b :: c :: l => four 3 (a.toNat * 65536 + b.toNat * 256 + c.toNat) ++ b64 l

theorem four_len (n g : Nat) : (four n g).length = 4 := rfl

theorem b64_len : ∀ l : List UInt8, (b64 l).length = (l.length + 2) / 3 * 4
  | [] => rfl
  | [_] => by simp [b64, four]
  | [_, _] => by simp [b64, four]
  | a :: b :: c :: l => by
    simp only [b64, List.length_append, four_len, b64_len l, List.length_cons]
    omega

def z3 : Array Value := #[.int .u8 0, .int .u8 0, .int .u8 0]

/-- 'copy(group[:], s)' over a new group of three noughts, s of one, two, and three or more bytes. -/
theorem copy_one {P : Program} (w : World) {dT sT ty elem : TypeId} (T : TypeId) (x : UInt8) (hu : P.underlying dT = some (.slice elem)) (hs : (P.info? elem).map (·.size) = some 1) :
    (Builtin.copy_ #[dT, sT] ty #[.slice (some ⟨w.heap.size, 0, none⟩) 3 3, .string ⟨#[x]⟩]).run P (w.alloc (.cells #[.int .u8 0, .int .u8 0, .int .u8 0] T)) = .ok (.int .i64 1) (w.alloc (.cells #[.int .u8 x.toNat, .int .u8 0, .int .u8 0] T)) := by
  cases hq : P.info? elem with
  | none => simp [hq] at hs
  | some i =>
    simp [hq] at hs
    have hst := run_storeCells_at P w.heap.size 0 T [.int .u8 x.toNat] 0 z3 (w.alloc (.cells z3 T)) (heap_alloc_new w _) (by simp [z3]) (by simp [Value.oneCell'])
    rw [World.setRow_alloc_new] at hst
    have hz : (ByteArray.mk #[x]).size = 1 := rfl
    simp [z3] at hst
    simp [Builtin.copy_, run_underlying hu, Builtin.lenOf, Builtin.firstCells, Go.sizeOf, typeInfo, hq, hz, hst, Result.andThen]
    rfl

theorem copy_two {P : Program} (w : World) {dT sT ty elem : TypeId} (T : TypeId) (x y : UInt8) (hu : P.underlying dT = some (.slice elem)) (hs : (P.info? elem).map (·.size) = some 1) :
    (Builtin.copy_ #[dT, sT] ty #[.slice (some ⟨w.heap.size, 0, none⟩) 3 3, .string ⟨#[x, y]⟩]).run P (w.alloc (.cells #[.int .u8 0, .int .u8 0, .int .u8 0] T)) = .ok (.int .i64 2) (w.alloc (.cells #[.int .u8 x.toNat, .int .u8 y.toNat, .int .u8 0] T)) := by
  cases hq : P.info? elem with
  | none => simp [hq] at hs
  | some i =>
    simp [hq] at hs
    have hst := run_storeCells_at P w.heap.size 0 T [.int .u8 x.toNat, .int .u8 y.toNat] 0 z3 (w.alloc (.cells z3 T)) (heap_alloc_new w _) (by simp [z3]) (by simp [Value.oneCell'])
    rw [World.setRow_alloc_new] at hst
    have hz : (ByteArray.mk #[x, y]).size = 2 := rfl
    simp [z3] at hst
    simp [Builtin.copy_, run_underlying hu, Builtin.lenOf, Builtin.firstCells, Go.sizeOf, typeInfo, hq, hz, hst, Result.andThen]
    rfl

theorem copy_three {P : Program} (w : World) {dT sT ty elem : TypeId} (T : TypeId) (x y z : UInt8) (l : List UInt8) (hu : P.underlying dT = some (.slice elem)) (hs : (P.info? elem).map (·.size) = some 1) :
    (Builtin.copy_ #[dT, sT] ty #[.slice (some ⟨w.heap.size, 0, none⟩) 3 3, .string ⟨(x :: y :: z :: l).toArray⟩]).run P (w.alloc (.cells #[.int .u8 0, .int .u8 0, .int .u8 0] T)) = .ok (.int .i64 3) (w.alloc (.cells #[.int .u8 x.toNat, .int .u8 y.toNat, .int .u8 z.toNat] T)) := by
  cases hq : P.info? elem with
  | none => simp [hq] at hs
  | some i =>
    simp [hq] at hs
    have hst := run_storeCells_at P w.heap.size 0 T [.int .u8 x.toNat, .int .u8 y.toNat, .int .u8 z.toNat] 0 z3 (w.alloc (.cells z3 T)) (heap_alloc_new w _) (by simp [z3]) (by simp [Value.oneCell'])
    rw [World.setRow_alloc_new] at hst
    have hz : Nat.min (ByteArray.mk (x :: y :: z :: l).toArray).size 3 = 3 := Nat.min_eq_right (by simp [ByteArray.size])
    simp [z3] at hst
    simp [Builtin.copy_, run_underlying hu, Builtin.lenOf, Builtin.firstCells, Go.sizeOf, typeInfo, hq, hz, hst, Result.andThen]
    rfl

theorem group (l : List UInt8) (h : l ≠ []) : ∃ (n : Nat) (x y z : UInt8), 1 ≤ n ∧ n ≤ 3 ∧ n = min 3 l.length ∧ b64 l = four n (x.toNat * 65536 + y.toNat * 256 + z.toNat) ++ b64 (l.drop n) ∧
    ∀ (P : Program) (dT sT ty elem : TypeId) (w : World) (T : TypeId), P.underlying dT = some (.slice elem) → (P.info? elem).map (·.size) = some 1 →
      (Builtin.copy_ #[dT, sT] ty #[.slice (some ⟨w.heap.size, 0, none⟩) 3 3, .string ⟨l.toArray⟩]).run P (w.alloc (.cells #[.int .u8 0, .int .u8 0, .int .u8 0] T)) = .ok (.int .i64 n) (w.alloc (.cells #[.int .u8 x.toNat, .int .u8 y.toNat, .int .u8 z.toNat] T)) := by
  match l, h with
  | [a], _ => exact ⟨1, a, 0, 0, by omega, by omega, by simp, by simp [b64], fun P dT sT ty elem w T hu hs => copy_one w T a hu hs⟩
  | [a, b], _ => exact ⟨2, a, b, 0, by omega, by omega, by simp, by simp [b64], fun P dT sT ty elem w T hu hs => copy_two w T a b hu hs⟩
  | a :: b :: c :: l, _ => exact ⟨3, a, b, c, by omega, by omega, by simp [List.length_cons]; try omega, by simp [b64], fun P dT sT ty elem w T hu hs => copy_three w T a b c l hu hs⟩

theorem size5 : (Tryd.prog.info? 5).map (·.size) = some 1 := by kernel_rfl

theorem wraps_u32 (n : Int) (h₀ : 0 ≤ n) (h₁ : n < 2 ^ 32) : IntKind.u32.wrap n = n := by rw [IntKind.wrap_u32]; omega

theorem group_bits (x y z : Nat) (hx : x < 256) (hy : y < 256) (hz : z < 256) : Go.bits .or .u32 (Go.bits .or .u32 ((x : Int) * 65536) ((y : Int) * 256)) z = ((x * 65536 + y * 256 + z : Nat) : Int) := by
  have h1 : Go.bits .or .u32 ((x : Int) * 65536) ((y : Int) * 256) = (x : Int) * 65536 + (y : Int) * 256 := bits_join .u32 32 (by decide) wraps_u32 16 _ _ (by omega) (by omega) (by omega) (by omega) (by omega) (by omega)
  rw [h1, bits_join .u32 32 (by decide) wraps_u32 8 _ _ (by omega) (by omega) (by omega) (by omega) (by omega) (by omega)]
  omega

theorem mask63 (m : Int) (h0 : 0 ≤ m) (h1 : m < 4294967296) : Go.bits .and .u32 m 63 = m % 64 := bits_mask .u32 32 (by decide) wraps_u32 6 (by decide) m h0 h1

theorem dig_at (m : Nat) (h : m < (ByteArray.mk #[65, 66, 67, 68, 69, 70, 71, 72, 73, 74, 75, 76, 77, 78, 79, 80, 81, 82, 83, 84, 85, 86, 87, 88, 89, 90, 97, 98, 99, 100, 101, 102, 103, 104, 105, 106, 107, 108, 109, 110, 111, 112, 113, 114, 115, 116, 117, 118, 119, 120, 121, 122, 48, 49, 50, 51, 52, 53, 54, 55, 56, 57, 43, 47]).size) :
    (ByteArray.mk #[65, 66, 67, 68, 69, 70, 71, 72, 73, 74, 75, 76, 77, 78, 79, 80, 81, 82, 83, 84, 85, 86, 87, 88, 89, 90, 97, 98, 99, 100, 101, 102, 103, 104, 105, 106, 107, 108, 109, 110, 111, 112, 113, 114, 115, 116, 117, 118, 119, 120, 121, 122, 48, 49, 50, 51, 52, 53, 54, 55, 56, 57, 43, 47])[m] = dig m := by
  have h2 : m < alpha.length := h
  unfold dig
  rw [List.getD_eq_getElem?_getD, List.getElem?_eq_getElem h2]
  rfl

theorem rest_eq (x0 : UInt8) (l : List UInt8) (n : Nat) (h : n = min 3 (l.length + 1)) :
    (ByteArray.mk (x0 :: l).toArray).extract (if (l.length : Int) + 1 < 3 then (l.length : Int) + 1 else 3).toNat (l.length + 1) = ⟨((x0 :: l).drop n).toArray⟩ := by
  have e : (if (l.length : Int) + 1 < 3 then (l.length : Int) + 1 else 3).toNat = n := by split <;> omega
  rw [e, Lib.extract_eq]
  have ht : List.take (l.length + 1 - n) (List.drop n (x0 :: l)) = List.drop n (x0 :: l) := List.take_of_length_le (by simp)
  exact congrArg (fun z : List UInt8 => ByteArray.mk z.toArray) ht

def sizeB : Value → Nat
  | .string s => s.size
  | _ => 0

set_option maxHeartbeats 1000000 in
theorem base64_any (s : ByteArray) (w : World) (hs : s.size ≤ 1099511627776) :
    Calls Tryd.prog 19 #[.string s] w fun e w' => e = .returned (.string ⟨(b64 s.data.toList).toArray⟩) ∧ Below w.heap.size w w' := by
  obtain ⟨i0, hi, hz0, hz1, hz2⟩ := info_parts info5
  obtain ⟨w0, hrun, hown0, hg0⟩ := run_make_own w w.heap.size 34 5 i0 (.int .u8 0) 1 Tryd.underlying34 hi hz0 hz1 .i64 .i64 ((s.size + 2) / 3 * 4) (by rw [hz2]; omega) (by unfold maxLen; omega) (Nat.le_refl _)
  have hce : (((s.size + 2) / 3 * 4 : Nat) : Int) = ((s.size : Int) + 2) / 3 * 4 := by omega
  rw [hce] at hrun
  have hB0 : Below w.heap.size w w0 := (Below.refl _ _).grown hg0 (Nat.le_refl _) (fun k hk => by cases hk)
  have K0 := Lib.hid hB0
  have K1 : Hid (OwnB w0 w.heap.size 5 (.slice (some ⟨w.heap.size, 0, none⟩) 0 ((s.size + 2) / 3 * 4)) []) := hown0
  clear hce hown0 hg0 hB0
  go_enter Tryd.func19, Tryd.ntmps19
  go_wp2_with fail
  go_loopw [0, 3] (fun r v wr => ∃ (l acc : List UInt8), r = .string ⟨l.toArray⟩ ∧ Hid (b64 s.data.toList = acc ++ b64 l) ∧ acc.length + (b64 l).length ≤ 1500000000000 ∧ l.length ≤ 1099511627776 ∧ w.heap.size ≤ wr.heap.size ∧
      OwnB wr w.heap.size 5 v acc ∧ Below w.heap.size w wr) (fun r _ _ => sizeB r)
  case atStart =>
    refine ⟨s.data.toList, [], rfl, rfl, ?_, by simpa [← Lib.size_eq] using hs, ?_, K1.out, K0.out⟩
    · rw [b64_len, ← Lib.size_eq]; simp; omega
    · exact K0.out.size
  case round =>
    obtain ⟨l, acc, rfl, HE, hlen, hl, hwz, hown, hB⟩ := hrel
    match l, HE, hlen, hl with
    | [], HE, hlen, hl =>
      have hconv := run_string (P := Tryd.prog) (src := 34) (dst := 9) Tryd.underlying34 Tryd.underlying5 Tryd.underlying9 hown
      go_wp2
      go_ret
      exact ⟨by rw [HE.out]; simp [b64], hB⟩
    | x0 :: l0, HE, hlen, hl =>
      obtain ⟨n, x, y, z, hn1, hn3, hnl, hbe, hcp⟩ := group (x0 :: l0) (by simp)
      have hcopy := fun w T => hcp Tryd.prog 34 9 3 5 w T Tryd.underlying34 size5
      have hx := x.toNat_lt
      have hy := y.toNat_lt
      have hz := z.toNat_lt
      have HB := Lib.hid hbe
      have HL := Lib.hid hnl
      have HC := Lib.hid (hcopy wr 55)
      have hgb := group_bits x.toNat y.toNat z.toNat hx hy hz
      obtain ⟨g, hg⟩ : ∃ g : Nat, g = x.toNat * 65536 + y.toNat * 256 + z.toNat := ⟨_, rfl⟩
      rw [← hg] at hgb hbe
      have hg24 : g < 16777216 := by omega
      have HB := Lib.hid hbe
      clear hcopy hbe hnl hcp hg
      have hcopy := HC.out
      go_wp2_with fail
      clear hcopy hgb hx hy hz
      obtain ⟨wo, rfl⟩ : ∃ wo : World, wo = wr := ⟨_, rfl⟩
      go_loopw [3, 39] (fun v i wr => ∃ j : Int, 0 ≤ j ∧ j ≤ 4 ∧ i = .int .i64 j ∧ OwnB wr w.heap.size 5 v (acc ++ (four n g).take j.toNat) ∧ Below w.heap.size w wr ∧ w.heap.size ≤ wr.heap.size) (fun _ i _ => 4 - (intOf i).toNat)
      case atStart => exact ⟨0, by omega, by omega, rfl, by simpa using hown.alloc _, hB.alloc hwz _, by simp; omega⟩
      case round =>
        obtain ⟨j, hj0, hj, rfl, hown2, hB2, hwz2⟩ := hrel
        have hm0 : (0 : Int) ≤ (g : Int) := by omega
        rcases (by omega : j = 0 ∨ j = 1 ∨ j = 2 ∨ j = 3 ∨ j = 4) with rfl | rfl | rfl | rfl | rfl
        · have d0 := mask63 ((g : Int) / 262144) (by omega) (by omega)
          go_wp2_with (at_builtin; refine app_byte w.heap.size rfl (.tmp 52) (.tmp 54) 34 5 rfl Tryd.underlying34 info5 _ _ _ (dig (g / 262144 % 64)) (congrArg (fun b : UInt8 => (b.toNat : Int)) (dig_at _ _)) rfl rfl hown2 hwz2 (by simp [four]; omega) ?_; intro v1 w1 hown1 hb1)
          go_roundw
          case rel => exact ⟨1, by omega, by omega, by first | rfl | go_num, by simpa [four] using hown1, hB2.trans (hb1.mono (by omega)), Nat.le_trans hwz2 hb1.size⟩
          case measure => simp [intOf]
        · have d0 := mask63 ((g : Int) / 4096) (by omega) (by omega)
          go_wp2_with (at_builtin; refine app_byte w.heap.size rfl (.tmp 52) (.tmp 54) 34 5 rfl Tryd.underlying34 info5 _ _ _ (dig (g / 4096 % 64)) (congrArg (fun b : UInt8 => (b.toNat : Int)) (dig_at _ _)) rfl rfl hown2 hwz2 (by simp [four]; omega) ?_; intro v1 w1 hown1 hb1)
          go_roundw
          case rel => exact ⟨2, by omega, by omega, by first | rfl | go_num, by simpa [four] using hown1, hB2.trans (hb1.mono (by omega)), Nat.le_trans hwz2 hb1.size⟩
          case measure => simp [intOf]
        · by_cases hnn : n < 2
          · go_wp2_with (at_builtin; refine app_byte w.heap.size rfl (.tmp 52) (.tmp 54) 34 5 rfl Tryd.underlying34 info5 _ _ _ (61) (rfl) rfl rfl hown2 hwz2 (by simp [four]; omega) ?_; intro v1 w1 hown1 hb1)
            go_roundw
            case rel => exact ⟨3, by omega, by omega, by first | rfl | go_num, by simpa [four, hnn] using hown1, hB2.trans (hb1.mono (by omega)), Nat.le_trans hwz2 hb1.size⟩
            case measure => simp [intOf]
          · have d0 := mask63 ((g : Int) / 64) (by omega) (by omega)
            go_wp2_with (at_builtin; refine app_byte w.heap.size rfl (.tmp 52) (.tmp 54) 34 5 rfl Tryd.underlying34 info5 _ _ _ (dig (g / 64 % 64)) (congrArg (fun b : UInt8 => (b.toNat : Int)) (dig_at _ _)) rfl rfl hown2 hwz2 (by simp [four]; omega) ?_; intro v1 w1 hown1 hb1)
            go_roundw
            case rel => exact ⟨3, by omega, by omega, by first | rfl | go_num, by simpa [four, hnn] using hown1, hB2.trans (hb1.mono (by omega)), Nat.le_trans hwz2 hb1.size⟩
            case measure => simp [intOf]
        · by_cases hnn : n < 3
          · go_wp2_with (at_builtin; refine app_byte w.heap.size rfl (.tmp 52) (.tmp 54) 34 5 rfl Tryd.underlying34 info5 _ _ _ (61) (rfl) rfl rfl hown2 hwz2 (by simp [four]; omega) ?_; intro v1 w1 hown1 hb1)
            go_roundw
            case rel => exact ⟨4, by omega, by omega, by first | rfl | go_num, by simpa [four, hnn] using hown1, hB2.trans (hb1.mono (by omega)), Nat.le_trans hwz2 hb1.size⟩
            case measure => simp [intOf]
          · have d0 := mask63 ((g : Int)) (by omega) (by omega)
            go_wp2_with (at_builtin; refine app_byte w.heap.size rfl (.tmp 52) (.tmp 54) 34 5 rfl Tryd.underlying34 info5 _ _ _ (dig (g % 64)) (congrArg (fun b : UInt8 => (b.toNat : Int)) (dig_at _ _)) rfl rfl hown2 hwz2 (by simp [four]; omega) ?_; intro v1 w1 hown1 hb1)
            go_roundw
            case rel => exact ⟨4, by omega, by omega, by first | rfl | go_num, by simpa [four, hnn] using hown1, hB2.trans (hb1.mono (by omega)), Nat.le_trans hwz2 hb1.size⟩
            case measure => simp [intOf]
        · go_wp2_with fail
          go_roundw
          case rel => exact ⟨(x0 :: l0).drop n, acc ++ four n g, by rw [rest_eq x0 l0 n (by simpa using HL.out)], by show _ = _; rw [HE.out, HB.out, List.append_assoc], by have := congrArg List.length HB.out; simp only [List.length_append, four_len] at this ⊢; omega,
            by simp at hl ⊢; omega, hwz2, by simpa [four] using hown2, hB2⟩
          case measure =>
            rw [rest_eq x0 l0 n (by simpa using HL.out)]
            simp [sizeB, ByteArray.size]; omega
end Go.Proofs.YtmfeojhphdmodaaDoor
