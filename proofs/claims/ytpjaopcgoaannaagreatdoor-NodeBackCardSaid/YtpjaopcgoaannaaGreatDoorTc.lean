/- Which bytes are characters: over lists of bytes, by the model's own decode. No program in it. -/
import Derived.Lib.MapLaws
import Derived.Lib.ValidU
namespace Go.Proofs.YtpjaopcgoaannaaGreatDoor
open Go.Lib

def badR (c : Nat) : Prop := c = 65534 ∨ c = 65535 ∨ (c < 32 ∧ c ≠ 9 ∧ c ≠ 10 ∧ c ≠ 13)
instance (c : Nat) : Decidable (badR c) := by unfold badR; infer_instance

def charsN : Nat → List UInt8 → Bool
  | 0, _ => true
  | n + 1, l => if l = [] then true else if ((decodeL l).1 = 65533 ∧ (decodeL l).2 = 1) ∨ badR (decodeL l).1 then false else charsN n (l.drop (decodeL l).2)
def chars (l : List UInt8) : Bool := charsN l.length l

theorem charsN_fuel : ∀ (n m : Nat) (l : List UInt8), l.length ≤ n → l.length ≤ m → charsN n l = charsN m l
  | 0, 0, _, _, _ => rfl
  | 0, m + 1, l, h, _ => by
    have : l = [] := List.eq_nil_of_length_eq_zero (by omega)
    subst this
    simp [charsN]
  | n + 1, 0, l, _, h => by
    have : l = [] := List.eq_nil_of_length_eq_zero (by omega)
    subst this
    simp [charsN]
  | n + 1, m + 1, l, h1, h2 => by
    unfold charsN
    by_cases h : l = []
    · simp [h]
    · have hw := decodeL_width l
      have hl : 0 < l.length := List.length_pos_iff.2 h
      rw [if_neg h, if_neg h, charsN_fuel n m (l.drop (decodeL l).2) (by simp; omega) (by simp; omega)]

theorem chars_nil : chars [] = true := rfl

theorem chars_step (l : List UInt8) (h : l ≠ []) : chars l = if ((decodeL l).1 = 65533 ∧ (decodeL l).2 = 1) ∨ badR (decodeL l).1 then false else chars (l.drop (decodeL l).2) := by
  have hl : 0 < l.length := List.length_pos_iff.2 h
  have hw := decodeL_width l
  unfold chars
  obtain ⟨n, hn⟩ : ∃ n, l.length = n + 1 := ⟨l.length - 1, by omega⟩
  rw [hn]
  conv => lhs; unfold charsN
  rw [if_neg h, charsN_fuel n (l.drop (decodeL l).2).length (l.drop (decodeL l).2) (by simp; omega) (Nat.le_refl _)]

theorem u8_eq_of {x : UInt8} {n : Nat} (hn : n < 256) (h : x.toNat = n) : x = UInt8.ofNat n := by
  subst h; simp

/-- What decodes as U+FFFD is one byte wide just if it isn't that character's own three bytes. -/
theorem repl_prefix (l : List UInt8) (h : l ≠ []) (hc : (decodeL l).1 = 65533) : hasPrefix l [239, 191, 189] = decide ((decodeL l).2 ≠ 1) := by
  have hl : 0 < l.length := List.length_pos_iff.2 h
  by_cases hw : (decodeL l).2 = 1
  · have : hasPrefix l [239, 191, 189] = false := by
      cases hp : hasPrefix l [239, 191, 189] with
      | false => rfl
      | true =>
        exfalso
        unfold hasPrefix at hp
        obtain ⟨t, rfl⟩ := List.isPrefixOf_iff_prefix.1 hp
        rw [decodeL_N] at hw
        simp [decodeN] at hw
    rw [this]; simp [hw]
  · have hp : l.take (decodeL l).2 = encodeRune 65533 := by
      rw [← encode_decode l h (fun hv => hw hv.2), hc]; rfl
    have h3 : encodeRune 65533 = [239, 191, 189] := by decide
    rw [h3] at hp
    have : hasPrefix l [239, 191, 189] = true := by
      unfold hasPrefix
      rw [List.isPrefixOf_iff_prefix, ← hp]
      exact List.take_prefix _ _
    rw [this]; simp [hw]
end Go.Proofs.YtpjaopcgoaannaaGreatDoor
