/- text.Unbase64: what it answers, for every text of at most 2^38 bytes. -/
import Derived.Test.YtmfeojhphdmodaaDoorTx2
import Derived.Test.YtmfeojhphdmodaaDoorTx3
import Derived.Lib.TrimByte
namespace Go.Proofs.YtmfeojhphdmodaaDoor
open Go.RowKit
open Hb

theorem toList_data (s : ByteArray) : s.toList = s.data.toList := ByteArray.toList_eq s

theorem u8of (x : Nat) : (((UInt8.ofNat x).toNat : Nat) : Int) = (x : Int) % 256 := by simp

def place (c : UInt8) : Int := Lib.indexByte alpha c

theorem place_range (c : UInt8) : -1 ≤ place c ∧ place c < 64 := by
  unfold place
  rcases idx_cut c alpha with ⟨h, _, _⟩ | ⟨i, h0, h, _⟩
  · rw [h]; omega
  · rw [h]; have : alpha.length = 64 := rfl; omega

def decR : List UInt8 → Nat → Nat → List UInt8 → Option (List UInt8)
  | [], _, _, out => some out
  | c :: l, bits, many, out =>
    if place c < 0 then none
    else if 2 ≤ many then decR l (bits * 64 % 4294967296 + (place c).toNat) (many - 2) (out ++ [UInt8.ofNat ((bits * 64 % 4294967296 + (place c).toNat) / 2 ^ (many - 2))])
    else decR l (bits * 64 % 4294967296 + (place c).toNat) (many + 6) out

/-- What text.Unbase64 answers: what is made of the digits, if that is written so. -/
def unb (l : List UInt8) : Option (List UInt8) :=
  match decR (Lib.trimRightB l 61) 0 0 [] with
  | none => none
  | some out => if b64 out = l then some out else none

theorem join6 (b p : Int) (h1 : 0 ≤ p) (h2 : p < 64) : Go.bits .or .u32 (b * 64 % 4294967296) p = b * 64 % 4294967296 + p :=
  bits_join .u32 32 (by decide) wraps_u32 6 _ _ (by omega) (by omega) (by omega) (by omega) (by omega) (by omega)

theorem idx_alpha (c : UInt8) (W : World) : Calls Tryd.prog 35 #[.string ⟨#[65, 66, 67, 68, 69, 70, 71, 72, 73, 74, 75, 76, 77, 78, 79, 80, 81, 82, 83, 84, 85, 86, 87, 88, 89, 90, 97, 98, 99, 100, 101, 102, 103, 104, 105, 106, 107, 108, 109, 110, 111, 112, 113, 114, 115, 116, 117, 118, 119, 120, 121, 122, 48, 49, 50, 51, 52, 53, 54, 55, 56, 57, 43, 47]⟩, .int .u8 c.toNat] W
    fun e w' => e = .returned (.int .i64 (place c)) ∧ w' = W := by
  have h := Tryd.strings_IndexByte ⟨#[65, 66, 67, 68, 69, 70, 71, 72, 73, 74, 75, 76, 77, 78, 79, 80, 81, 82, 83, 84, 85, 86, 87, 88, 89, 90, 97, 98, 99, 100, 101, 102, 103, 104, 105, 106, 107, 108, 109, 110, 111, 112, 113, 114, 115, 116, 117, 118, 119, 120, 121, 122, 48, 49, 50, 51, 52, 53, 54, 55, 56, 57, 43, 47]⟩ (c.toNat : Int) W
  have e : (c.toNat : Int).toNat.toUInt8 = c := by simp
  rw [e] at h
  exact h

set_option maxHeartbeats 1000000 in
theorem unbase64_any (s : ByteArray) (w : World) (hs : s.size ≤ 274877906944) :
    Calls Tryd.prog 17 #[.string s] w fun e w' => e = .returned (Told (unb s.data.toList)) ∧ Below w.heap.size w w' := by
  obtain ⟨body, hbody⟩ : ∃ b, b = Lib.trimRightB s.data.toList 61 := ⟨_, rfl⟩
  have hbl : body.length ≤ s.size := by
    rw [hbody, Lib.size_eq]
    unfold Lib.trimRightB
    rw [List.length_reverse]
    exact Nat.le_trans (List.dropWhile_sublist _).length_le (by simp)
  have htr := Tryd.strings_TrimRight_one s 61 (by decide) w (by omega)
  rw [← hbody] at htr
  have T1 := Lib.hid htr
  have T2 := Lib.hid hbody
  have hbz : (ByteArray.mk body.toArray).size = body.length := by simp [ByteArray.size]
  clear htr hbody
  go_enter Tryd.func17, Tryd.ntmps17
  go_wp2_with fail
  refine T1.out.mono ?_
  rintro e w1 ⟨rfl, hw⟩
  obtain rfl := hw.symm
  go_wp2_with fail
  go_loopw [5, 6, 7, 14] (fun v b m i wr => ∃ (k bits many : Nat) (out : List UInt8), k ≤ body.length ∧ i = .int .i64 k ∧ b = .int .u32 bits ∧ m = .int .i64 many ∧ bits < 4294967296 ∧ (many = 0 ∨ many = 2 ∨ many = 4 ∨ many = 6) ∧ out.length ≤ k ∧
      Hid (decR body 0 0 [] = decR (body.drop k) bits many out) ∧ OwnB wr w.heap.size 5 v out ∧ Below w.heap.size w wr ∧ w.heap.size ≤ wr.heap.size) (fun _ _ _ i _ => body.length - (intOf i).toNat)
  case atStart => exact ⟨0, 0, 0, [], by omega, rfl, rfl, rfl, by omega, .inl rfl, by simp, rfl, OwnB.nil _ _ _, Below.refl _ _, Nat.le_refl _⟩
  case round =>
    obtain ⟨k, bits, many, out, hk, rfl, rfl, rfl, hbits, hmany, hol, HD, hown, hB, hwz⟩ := hrel
    by_cases hlt : k < body.length
    · have hix := idx_alpha body[k]
      have hpr := place_range body[k]
      have hcons : body.drop k = body[k] :: body.drop (k + 1) := List.drop_eq_getElem_cons hlt
      generalize hpp : place body[k] = p at hix hpr
      have I1 := Lib.hid hix
      have I2 := Lib.hid hpp
      have I3 := Lib.hid hcons
      clear hix hpp hcons
      go_wp2_with fail
      refine (I1.out _).mono ?_
      rintro e w2 ⟨rfl, hw2⟩
      obtain rfl := hw2.symm
      by_cases hp0 : p < 0
      · have HU : Hid (unb s.data.toList = none) := by
          show _ = _
          unfold unb
          rw [← T2.out, HD.out, I3.out]
          simp only [decR, I2.out, if_pos hp0]
        go_wp2_with fail
        go_ret2
        exact ⟨by rw [HU.out]; rfl, hB⟩
      · have hj := join6 bits p (by omega) (by omega)
        have hge : 0 ≤ p := by omega
        obtain ⟨q, rfl⟩ := Int.eq_ofNat_of_zero_le hge
        have hq64 : q < 64 := by omega
        have hdr : Hid (decR (body.drop k) bits many out = if 2 ≤ many then decR (body.drop (k + 1)) (bits * 64 % 4294967296 + q) (many - 2) (out ++ [UInt8.ofNat ((bits * 64 % 4294967296 + q) / 2 ^ (many - 2))]) else decR (body.drop (k + 1)) (bits * 64 % 4294967296 + q) (many + 6) out) := by
          show _ = _
          rw [I3.out]
          simp only [decR, I2.out, if_neg hp0]
          rfl
        rcases hmany with rfl | rfl | rfl | rfl
        · go_wp2_with fail
          go_roundw
          case rel => exact ⟨k + 1, bits * 64 % 4294967296 + q, 6, out, by omega, by go_num, by go_num, by go_num, by omega, by omega, by omega, by show _ = _; rw [HD.out, hdr.out]; rfl, hown, hB, hwz⟩
          case measure => simp [intOf]; omega
        · go_wp2_with (at_builtin; refine app_byte w.heap.size rfl (.tmp 34) (.tmp 39) 34 5 rfl Tryd.underlying34 info5 _ _ _ (UInt8.ofNat ((bits * 64 % 4294967296 + q) / 1)) (by rw [u8of]; omega) rfl rfl hown hwz (by omega) ?_; intro v1 w1 hown1 hb1)
          go_roundw
          case rel => exact ⟨k + 1, bits * 64 % 4294967296 + q, 0, out ++ [UInt8.ofNat ((bits * 64 % 4294967296 + q) / 1)], by omega, by go_num, by go_num, by go_num, by omega, by omega, by simp; omega, by show _ = _; rw [HD.out, hdr.out]; rfl, hown1, hB.trans (hb1.mono (by omega)), Nat.le_trans hwz hb1.size⟩
          case measure => simp [intOf]; omega
        · go_wp2_with (at_builtin; refine app_byte w.heap.size rfl (.tmp 34) (.tmp 39) 34 5 rfl Tryd.underlying34 info5 _ _ _ (UInt8.ofNat ((bits * 64 % 4294967296 + q) / 4)) (by rw [u8of]; omega) rfl rfl hown hwz (by omega) ?_; intro v1 w1 hown1 hb1)
          go_roundw
          case rel => exact ⟨k + 1, bits * 64 % 4294967296 + q, 2, out ++ [UInt8.ofNat ((bits * 64 % 4294967296 + q) / 4)], by omega, by go_num, by go_num, by go_num, by omega, by omega, by simp; omega, by show _ = _; rw [HD.out, hdr.out]; rfl, hown1, hB.trans (hb1.mono (by omega)), Nat.le_trans hwz hb1.size⟩
          case measure => simp [intOf]; omega
        · go_wp2_with (at_builtin; refine app_byte w.heap.size rfl (.tmp 34) (.tmp 39) 34 5 rfl Tryd.underlying34 info5 _ _ _ (UInt8.ofNat ((bits * 64 % 4294967296 + q) / 16)) (by rw [u8of]; omega) rfl rfl hown hwz (by omega) ?_; intro v1 w1 hown1 hb1)
          go_roundw
          case rel => exact ⟨k + 1, bits * 64 % 4294967296 + q, 4, out ++ [UInt8.ofNat ((bits * 64 % 4294967296 + q) / 16)], by omega, by go_num, by go_num, by go_num, by omega, by omega, by simp; omega, by show _ = _; rw [HD.out, hdr.out]; rfl, hown1, hB.trans (hb1.mono (by omega)), Nat.le_trans hwz hb1.size⟩
          case measure => simp [intOf]; omega
    · have hdrop : body.drop k = [] := List.drop_eq_nil_of_le (by omega)
      have HR : Hid (decR (Lib.trimRightB s.data.toList 61) 0 0 [] = some out) := by
        have := HD.out
        rw [hdrop] at this
        show _ = _
        rw [← T2.out, this]
        rfl
      have hconv := run_string (P := Tryd.prog) (src := 34) (dst := 9) Tryd.underlying34 Tryd.underlying5 Tryd.underlying9 hown
      have hsz : (ByteArray.mk out.toArray).size = out.length := by simp [ByteArray.size]
      have hb64 := base64_any ⟨out.toArray⟩ wr (by rw [hsz]; omega)
      have B1 := Lib.hid hb64
      clear hb64 hsz hdrop
      by_cases hq : b64 out = s.data.toList
      · have HU : Hid (unb s.data.toList = some out) := by
          show _ = _
          unfold unb
          rw [HR.out]
          exact if_pos hq
        have hne : (b64 out != s.data.toList) = false := by simp [hq]
        go_wp2_with fail
        refine B1.out.mono ?_
        rintro e w2 ⟨rfl, hb2⟩
        have hconv2 := run_string (P := Tryd.prog) (src := 34) (dst := 9) Tryd.underlying34 Tryd.underlying5 Tryd.underlying9 (hown.below hb2)
        clear hconv
        go_wp2_with fail
        go_ret2
        exact ⟨by rw [HU.out]; rfl, hB.trans (hb2.mono hwz)⟩
      · have HU : Hid (unb s.data.toList = none) := by
          show _ = _
          unfold unb
          rw [HR.out]
          exact if_neg hq
        have hne : (b64 out == s.toList) = false := by rw [toList_data]; simpa using hq
        go_wp2_with fail
        refine B1.out.mono ?_
        rintro e w2 ⟨rfl, hb2⟩
        clear hconv
        go_wp2_with fail
        go_ret2
        exact ⟨by rw [HU.out]; rfl, hB.trans (hb2.mono hwz)⟩
end Go.Proofs.YtmfeojhphdmodaaDoor
