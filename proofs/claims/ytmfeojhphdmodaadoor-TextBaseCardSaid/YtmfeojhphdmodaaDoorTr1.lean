/- The references of Escape and Unescape: what they answer, for every text. -/
import Derived.Test.YtmfeojhphdmodaaDoorTp
import Derived.Deep.QuietTactic
import Derived.BigQuiet
import Derived.Laws.Strings2
namespace Go.Proofs.YtmfeojhphdmodaaDoor
open Go.RowKit
open Hb

def rcells : Array Value := #[.string ⟨#[38]⟩, .string ⟨#[38, 97, 109, 112, 59]⟩, .string ⟨#[60]⟩, .string ⟨#[38, 108, 116, 59]⟩, .string ⟨#[62]⟩, .string ⟨#[38, 103, 116, 59]⟩,
  .string ⟨#[39]⟩, .string ⟨#[38, 97, 112, 111, 115, 59]⟩, .string ⟨#[34]⟩, .string ⟨#[38, 113, 117, 111, 116, 59]⟩]

theorem refEntities_any (w : World) : Calls Tryd.prog 33 #[] w fun e w' => e = .returned (.slice (some { block := w.heap.size, off := 0 }) 5 5) ∧ w' = w.alloc (.cells rcells 48) := by
  go_enter Tryd.func33, Tryd.ntmps33
  go_wp2_with fail
  go_ret
  exact ⟨rfl, rfl⟩

theorem one_at (s : ByteArray) (k : Nat) (h : k < s.size) : s.extract k (k + 1) = ⟨#[s[k]]⟩ := by
  apply ByteArray.ext
  rw [ByteArray.data_extract]
  apply Array.ext
  · simp; have : s.data.size = s.size := rfl; omega
  · intro i h1 h2
    simp at h2
    subst h2
    simp
    rfl
theorem one_eq (a b : UInt8) : ((ByteArray.mk #[a]) == (ByteArray.mk #[b])) = decide (b.toNat = a.toNat) := by
  rw [Bool.eq_iff_iff, MapKept.bytes_beq, decide_eq_true_eq]
  constructor
  · intro h
    have h2 : (ByteArray.mk #[a]).data.toList = (ByteArray.mk #[b]).data.toList := by rw [h]
    have h3 : a = b := by simpa using h2
    rw [h3]
  · intro h
    rw [UInt8.toNat_inj.1 h]

theorem cat_mk (a b : List UInt8) : (ByteArray.mk a.toArray ++ ByteArray.mk b.toArray) = ByteArray.mk (a ++ b).toArray := by
  apply ByteArray.ext; simp [ByteArray.data_append]

def idxOf (c : UInt8) : Nat := if c.toNat = 38 then 0 else if c.toNat = 60 then 1 else if c.toNat = 62 then 2 else if c.toNat = 39 then 3 else if c.toNat = 34 then 4 else 5
def upto (j : Nat) (c : UInt8) : List UInt8 := if idxOf c < j then escB c else [c]
def ourIdx (n : Nat) : Nat := if n = 38 then 0 else if n = 60 then 1 else if n = 62 then 2 else if n = 39 then 3 else if n = 34 then 4 else 5
theorem upto_zero (c : UInt8) : upto 0 c = [c] := by simp [upto]
theorem upto_all (c : UInt8) : upto 5 c = escB c := by
  have key : ∀ n, n < 256 → upto 5 (UInt8.ofNat n) = escB (UInt8.ofNat n) := by decide +kernel
  have := key c.toNat c.toNat_lt
  rwa [UInt8.ofNat_toNat] at this
theorem upto_same (c : UInt8) (j : Nat) (h : idxOf c ≠ j) : upto (j + 1) c = upto j c := by
  unfold upto
  by_cases h1 : idxOf c < j
  · rw [if_pos h1, if_pos (by omega)]
  · rw [if_neg h1, if_neg (by omega)]
theorem upto_hit : upto 1 38 = [38, 97, 109, 112, 59] ∧ upto 2 60 = [38, 108, 116, 59] ∧ upto 3 62 = [38, 103, 116, 59] ∧ upto 4 39 = [38, 97, 112, 111, 115, 59] ∧ upto 5 34 = [38, 113, 117, 111, 116, 59] := by decide +kernel
theorem code_lit (c : UInt8) (n : Nat) (h : c.toNat = n) (hn : n < 256) : c = UInt8.ofNat n := by subst h; simp

set_option maxHeartbeats 4000000 in
theorem refEscape_any (s : ByteArray) (w : World) (hs : s.size ≤ 4294967296) :
    Calls Tryd.prog 16 #[.string s] w fun e w' => e = .returned (.string ⟨(esc s.data.toList).toArray⟩) ∧ Below w.heap.size w w' := by
  go_enter Tryd.func16, Tryd.ntmps16
  go_wp2_with fail
  refine (refEntities_any _).mono ?_
  rintro e w' ⟨rfl, rfl⟩
  have hb : (w.alloc (.cells rcells 48)).heap[w.heap.size]? = some (.cells #[.string ⟨#[38]⟩, .string ⟨#[38, 97, 109, 112, 59]⟩, .string ⟨#[60]⟩, .string ⟨#[38, 108, 116, 59]⟩, .string ⟨#[62]⟩, .string ⟨#[38, 103, 116, 59]⟩, .string ⟨#[39]⟩, .string ⟨#[38, 97, 112, 111, 115, 59]⟩, .string ⟨#[34]⟩, .string ⟨#[38, 113, 117, 111, 116, 59]⟩] 48) := (MapKept.heap_alloc w _).1
  have hB : Below w.heap.size w (w.alloc (.cells rcells 48)) := (Below.refl _ w).alloc (Nat.le_refl _) _
  generalize w.alloc (.cells rcells 48) = W at hb hB
  generalize hB0 : w.heap.size = B at hb hB ⊢
  go_wp2_with fail
  go_loopw [3, 5] (fun o i W => (∃ k : Nat, k ≤ s.size ∧ i = .int .i64 k ∧ o = .string ⟨(esc (s.data.toList.take k)).toArray⟩) ∧ W.heap[B]? = some (.cells #[.string ⟨#[38]⟩, .string ⟨#[38, 97, 109, 112, 59]⟩, .string ⟨#[60]⟩, .string ⟨#[38, 108, 116, 59]⟩, .string ⟨#[62]⟩, .string ⟨#[38, 103, 116, 59]⟩, .string ⟨#[39]⟩, .string ⟨#[38, 97, 112, 111, 115, 59]⟩, .string ⟨#[34]⟩, .string ⟨#[38, 113, 117, 111, 116, 59]⟩] 48) ∧ Below B w W) (fun _ i _ => s.size - (intOf i).toNat)
  case atStart => exact ⟨⟨0, Nat.zero_le _, rfl, rfl⟩, hb, hB⟩
  case round =>
    obtain ⟨⟨k, hk, rfl, rfl⟩, hb, hB⟩ := hrel
    obtain ⟨wo, rfl⟩ : ∃ wo : World, wo = wr := ⟨_, rfl⟩
    by_cases hlt : k < s.size
    · have hx := one_at s k hlt
      have hst := take_snoc s k hlt
      generalize s[k] = c at hx hst
      have hsl : ∀ W : World, (Instr.slice 9 (.string s) (some (.int .i64 (k : Int))) (some (.int .i64 ((k : Int) + 1))) none).run Tryd.prog W = .ok (.string ⟨#[c]⟩) W := fun W => by
        have := run_slice_string (P := Tryd.prog) W 9 s .i64 .i64 (k : Int) ((k : Int) + 1) Tryd.underlying9 (by omega) (by omega) (by omega)
        rw [← hx]
        simpa using this
      go_wp2_with fail
      go_loopw [6, 7] (fun cv kv W => (∃ j : Int, 0 ≤ j ∧ j ≤ 5 ∧ kv = .int .i64 j ∧ cv = .string ⟨(upto j.toNat c).toArray⟩) ∧ W.heap[B]? = some (.cells #[.string ⟨#[38]⟩, .string ⟨#[38, 97, 109, 112, 59]⟩, .string ⟨#[60]⟩, .string ⟨#[38, 108, 116, 59]⟩, .string ⟨#[62]⟩, .string ⟨#[38, 103, 116, 59]⟩, .string ⟨#[39]⟩, .string ⟨#[38, 97, 112, 111, 115, 59]⟩, .string ⟨#[34]⟩, .string ⟨#[38, 113, 117, 111, 116, 59]⟩] 48) ∧ Below B w W) (fun _ kv _ => 5 - (intOf kv).toNat)
      case atStart => exact ⟨⟨0, by omega, by omega, rfl, by rw [show (0 : Int).toNat = 0 from rfl, upto_zero]⟩, hb, hB⟩
      case round =>
        obtain ⟨⟨j, j0, j5, rfl, rfl⟩, hb, hB⟩ := hrel
        rcases (by omega : j = 0 ∨ j = 1 ∨ j = 2 ∨ j = 3 ∨ j = 4 ∨ j = 5) with rfl | rfl | rfl | rfl | rfl | rfl
        · have l0 : wr.cell? { block := B, off := 0 } = some (.string ⟨#[38]⟩) := by simp [World.cell?, hb]
          have l1 : wr.cell? { block := B, off := 1 } = some (.string ⟨#[38, 97, 109, 112, 59]⟩) := by simp [World.cell?, hb]
          by_cases hc : c.toNat = 38
          · have e : ((38 : UInt8) == c) = true := by rw [code_lit c 38 hc (by omega)]; decide
            have hu : upto 1 c = [38, 97, 109, 112, 59] := by
              rw [code_lit c 38 hc (by omega)]
              exact upto_hit.1
            go_wp2_with fail
            go_quiet (fail)
            go_wp2_with fail
            go_round
            case rel => exact ⟨⟨1, by omega, by omega, rfl, by rw [show (1 : Int).toNat = 1 from rfl, hu]⟩, hb, bdrewN hB _⟩
            case measure => simp [intOf]
          · have e : ((38 : UInt8) == c) = false := by rw [beq_eq_false_iff_ne]; intro h; exact hc (by rw [← h]; rfl)
            have hu : upto 1 c = upto 0 c := upto_same c 0 (by intro h; unfold idxOf at h; (repeat' split at h) <;> omega)
            go_wp2_with fail
            go_quiet (fail)
            go_wp2_with fail
            go_round
            case rel => exact ⟨⟨1, by omega, by omega, rfl, by rw [show (1 : Int).toNat = 1 from rfl, hu]; rfl⟩, hb, bdrewN hB _⟩
            case measure => simp [intOf]
        · have l0 : wr.cell? { block := B, off := 2 } = some (.string ⟨#[60]⟩) := by simp [World.cell?, hb]
          have l1 : wr.cell? { block := B, off := 3 } = some (.string ⟨#[38, 108, 116, 59]⟩) := by simp [World.cell?, hb]
          by_cases hc : c.toNat = 60
          · have e : ((60 : UInt8) == c) = true := by rw [code_lit c 60 hc (by omega)]; decide
            have hu : upto 2 c = [38, 108, 116, 59] := by
              rw [code_lit c 60 hc (by omega)]
              exact upto_hit.2.1
            go_wp2_with fail
            go_quiet (fail)
            go_wp2_with fail
            go_round
            case rel => exact ⟨⟨2, by omega, by omega, rfl, by rw [show (2 : Int).toNat = 2 from rfl, hu]⟩, hb, bdrewN hB _⟩
            case measure => simp [intOf]
          · have e : ((60 : UInt8) == c) = false := by rw [beq_eq_false_iff_ne]; intro h; exact hc (by rw [← h]; rfl)
            have hu : upto 2 c = upto 1 c := upto_same c 1 (by intro h; unfold idxOf at h; (repeat' split at h) <;> omega)
            go_wp2_with fail
            go_quiet (fail)
            go_wp2_with fail
            go_round
            case rel => exact ⟨⟨2, by omega, by omega, rfl, by rw [show (2 : Int).toNat = 2 from rfl, hu]; rfl⟩, hb, bdrewN hB _⟩
            case measure => simp [intOf]
        · have l0 : wr.cell? { block := B, off := 4 } = some (.string ⟨#[62]⟩) := by simp [World.cell?, hb]
          have l1 : wr.cell? { block := B, off := 5 } = some (.string ⟨#[38, 103, 116, 59]⟩) := by simp [World.cell?, hb]
          by_cases hc : c.toNat = 62
          · have e : ((62 : UInt8) == c) = true := by rw [code_lit c 62 hc (by omega)]; decide
            have hu : upto 3 c = [38, 103, 116, 59] := by
              rw [code_lit c 62 hc (by omega)]
              exact upto_hit.2.2.1
            go_wp2_with fail
            go_quiet (fail)
            go_wp2_with fail
            go_round
            case rel => exact ⟨⟨3, by omega, by omega, rfl, by rw [show (3 : Int).toNat = 3 from rfl, hu]⟩, hb, bdrewN hB _⟩
            case measure => simp [intOf]
          · have e : ((62 : UInt8) == c) = false := by rw [beq_eq_false_iff_ne]; intro h; exact hc (by rw [← h]; rfl)
            have hu : upto 3 c = upto 2 c := upto_same c 2 (by intro h; unfold idxOf at h; (repeat' split at h) <;> omega)
            go_wp2_with fail
            go_quiet (fail)
            go_wp2_with fail
            go_round
            case rel => exact ⟨⟨3, by omega, by omega, rfl, by rw [show (3 : Int).toNat = 3 from rfl, hu]; rfl⟩, hb, bdrewN hB _⟩
            case measure => simp [intOf]
        · have l0 : wr.cell? { block := B, off := 6 } = some (.string ⟨#[39]⟩) := by simp [World.cell?, hb]
          have l1 : wr.cell? { block := B, off := 7 } = some (.string ⟨#[38, 97, 112, 111, 115, 59]⟩) := by simp [World.cell?, hb]
          by_cases hc : c.toNat = 39
          · have e : ((39 : UInt8) == c) = true := by rw [code_lit c 39 hc (by omega)]; decide
            have hu : upto 4 c = [38, 97, 112, 111, 115, 59] := by
              rw [code_lit c 39 hc (by omega)]
              exact upto_hit.2.2.2.1
            go_wp2_with fail
            go_quiet (fail)
            go_wp2_with fail
            go_round
            case rel => exact ⟨⟨4, by omega, by omega, rfl, by rw [show (4 : Int).toNat = 4 from rfl, hu]⟩, hb, bdrewN hB _⟩
            case measure => simp [intOf]
          · have e : ((39 : UInt8) == c) = false := by rw [beq_eq_false_iff_ne]; intro h; exact hc (by rw [← h]; rfl)
            have hu : upto 4 c = upto 3 c := upto_same c 3 (by intro h; unfold idxOf at h; (repeat' split at h) <;> omega)
            go_wp2_with fail
            go_quiet (fail)
            go_wp2_with fail
            go_round
            case rel => exact ⟨⟨4, by omega, by omega, rfl, by rw [show (4 : Int).toNat = 4 from rfl, hu]; rfl⟩, hb, bdrewN hB _⟩
            case measure => simp [intOf]
        · have l0 : wr.cell? { block := B, off := 8 } = some (.string ⟨#[34]⟩) := by simp [World.cell?, hb]
          have l1 : wr.cell? { block := B, off := 9 } = some (.string ⟨#[38, 113, 117, 111, 116, 59]⟩) := by simp [World.cell?, hb]
          by_cases hc : c.toNat = 34
          · have e : ((34 : UInt8) == c) = true := by rw [code_lit c 34 hc (by omega)]; decide
            have hu : upto 5 c = [38, 113, 117, 111, 116, 59] := by
              rw [code_lit c 34 hc (by omega)]
              exact upto_hit.2.2.2.2
            go_wp2_with fail
            go_quiet (fail)
            go_wp2_with fail
            go_round
            case rel => exact ⟨⟨5, by omega, by omega, rfl, by rw [show (5 : Int).toNat = 5 from rfl, hu]⟩, hb, bdrewN hB _⟩
            case measure => simp [intOf]
          · have e : ((34 : UInt8) == c) = false := by rw [beq_eq_false_iff_ne]; intro h; exact hc (by rw [← h]; rfl)
            have hu : upto 5 c = upto 4 c := upto_same c 4 (by intro h; unfold idxOf at h; (repeat' split at h) <;> omega)
            go_wp2_with fail
            go_quiet (fail)
            go_wp2_with fail
            go_round
            case rel => exact ⟨⟨5, by omega, by omega, rfl, by rw [show (5 : Int).toNat = 5 from rfl, hu]; rfl⟩, hb, bdrewN hB _⟩
            case measure => simp [intOf]
        · have hz1 : (ByteArray.mk (esc (s.data.toList.take k)).toArray).size ≤ 25769803776 := by
            have h1 := esc_len (s.data.toList.take k)
            have h2 : (ByteArray.mk (esc (s.data.toList.take k)).toArray).size = (esc (s.data.toList.take k)).length := by simp [ByteArray.size]
            have h3 := List.length_take_le k s.data.toList
            omega
          have hz2 : (ByteArray.mk (upto 5 c).toArray).size ≤ 6 := by
            have h1 := escB_len c
            rw [upto_all]
            simpa [ByteArray.size] using h1
          have m1 : (ByteArray.mk (esc (s.data.toList.take k)).toArray ++ ByteArray.mk (upto 5 c).toArray) = ByteArray.mk (esc (s.data.toList.take (k + 1))).toArray := by
            rw [hst, esc_snoc, upto_all]
            exact cat_mk _ _
          go_wp2_with fail
          go_round
          case rel => exact ⟨⟨k + 1, by omega, by go_num, by rw [hst]⟩, hb, hB⟩
          case measure => simp [intOf]; omega
    · have hf : s.data.toList.take k = s.data.toList := List.take_of_length_le (by rw [← Lib.size_eq]; omega)
      go_wp2_with fail
      go_ret
      exact ⟨by rw [hf]; rfl, by rw [hB0]; exact hB⟩
end Go.Proofs.YtmfeojhphdmodaaDoor
