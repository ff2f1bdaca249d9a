/- What a right node's texts measure; a cut at a colon. And: writer.number. -/
import Derived.Test.YtpjaopcgoaannaaGreatDoorB3
import Derived.Test.YtpjaopcgoaannaaGreatDoorN16
import Derived.Test.YtpjaopcgoaannaaGreatDoorN14
namespace Go.Proofs.YtpjaopcgoaannaaGreatDoor
open Go.RowKit Go.Lib
open Hb

theorem cutAt_ge (c : UInt8) : ∀ l : List UInt8, l.length ≤ (cutAt c l).1.length + (cutAt c l).2.1.length + 1
  | [] => Nat.zero_le _
  | b :: r => by
    have ih := cutAt_ge c r
    unfold cutAt
    split
    · simp
    · simp only [List.length_cons]
      omega
theorem cutAt_C : ∀ l : List UInt8, cutC l = if (cutAt 58 l).2.2 then some ((cutAt 58 l).1, (cutAt 58 l).2.1) else none
  | [] => rfl
  | b :: r => by
    have ih := cutAt_C r
    unfold cutC cutAt
    by_cases hb : b = 58
    · rw [if_pos hb, if_pos (by rw [beq_iff_eq]; exact hb)]
      rfl
    · rw [if_neg hb, if_neg (by rw [beq_iff_eq]; exact hb), ih]
      show _ = if (cutAt 58 r).2.2 = true then some (b :: (cutAt 58 r).1, (cutAt 58 r).2.1) else none
      split <;> rfl
theorem cutS_le (c : UInt8) (s : ByteArray) : s.size ≤ (cutS c s).1.size + (cutS c s).2.1.size + 1 := by
  have h := cutAt_ge c s.data.toList
  have h1 := Lib.size_eq s
  unfold cutS
  simp only [ByteArray.size, List.size_toArray]
  have h2 : s.data.size = s.size := rfl
  omega
theorem jid_sizes {l d r : ByteArray} (h : jidRight l d r = true) : l.size + d.size + r.size ≤ 128 := by
  unfold jidRight at h
  simp only [Bool.and_eq_true, decide_eq_true_eq] at h
  have h1 := h.2
  rw [joinB_size] at h1
  split at h1 <;> split at h1 <;> omega
theorem addr_size {s : ByteArray} (h : addrB s = true) : (bl s).length < 1000 := by
  rw [← size_bl]
  unfold addrB at h
  have h1 := cutS_le 47 s
  have h2 := cutS_le 64 (cutS 47 s).1
  unfold parseB at h
  split at h
  · cases h
  rename_i l d r hp
  split at hp
  · cases hp
  split at hp
  · split at hp
    · cases hp
    split at hp
    · rename_i hj
      have := jid_sizes hj
      omega
    · cases hp
  · split at hp
    · rename_i hj
      have := jid_sizes hj
      omega
    · cases hp
theorem name_size {s : ByteArray} (h : nameB s = true) : (bl s).length < 1000 := by
  rw [← size_bl]
  unfold nameB at h
  simp only [Bool.and_eq_true, decide_eq_true_eq] at h
  omega
theorem body_size {s : ByteArray} (h : bodyB s = true) : (bl s).length < 1000 := by
  rw [← size_bl]
  unfold bodyB at h
  simp only [Bool.and_eq_true, decide_eq_true_eq] at h
  omega
theorem sizes_of {n : PNode} (h : RightP pr n) (ha : 0 ≤ n.access) : Sizes n := by
  have hh := h.head
  unfold headN at hh
  simp only [Bool.and_eq_true, Bool.or_eq_true] at hh
  refine ⟨name_size hh.1.1.1.1, ?_, fun x hx => addr_size (h.aff x hx), fun x hx => addr_size (h.sub x hx), fun x hx => ?_, ha⟩
  · rcases hh.2 with hp | hp
    · rw [eqS_iff] at hp
      rw [hp]
      decide
    · exact name_size hp
  · have := h.item x hx
    simp only [Bool.and_eq_true] at this
    exact ⟨name_size this.1.1, addr_size this.1.2, body_size this.2⟩

theorem word_k (m B b g : Nat) (l : List UInt8) (ls : List ByteArray) (hm : ls.length = m) (w : World) (h : WrI B b l w) (hr : StrRow w g ls) (hlen : ∀ s ∈ ls, (bl s).length < 1000) (hn : m ≤ 5) (hl : l.length ≤ 900000) (hB : B ≤ w.heap.size) (hT : Tab w) (hG : tabG < B) :
    Calls Tryz.prog 10 #[.pointer (some ⟨b, 0, none⟩), .slice (some ⟨g, 0, none⟩) m m] w fun e w' => e = .returned (.tuple #[]) ∧ WrI B b (l ++ wordsL ls) w' ∧ Below B w w' ∧ Fw w w' := by
  subst hm
  exact word_any B b g l ls w h hr hlen hn hl hB hT hG
theorem numL_len {n : Nat} : (numL n).length ≤ 1003 := wordL_len (by have := dig_len n; omega)
set_option maxRecDepth 100000 in
set_option maxHeartbeats 8000000 in
theorem number_any (B b : Nat) (l : List UInt8) (n : Nat) (w : World) (h : WrI B b l w) (hn : n < 1000) (hl : l.length ≤ 900000) (hB : B ≤ w.heap.size) (hT : Tab w) (hG : tabG < B) :
    Calls Tryz.prog 12 #[.pointer (some ⟨b, 0, none⟩), .int .i64 n] w fun e w' => e = .returned (.tuple #[]) ∧ WrI B b (l ++ numL n) w' ∧ Below B w w' ∧ Fw w w' := by
  have HIt := Lib.hid (itoa_any n hn w hT)
  have HI := Lib.hid h
  have HB := Lib.hid hB
  have HT := Lib.hid hT
  have HG := Lib.hid hG
  clear h hB hT hG
  go_enter Tryz.func12, Tryz.ntmps12
  go_wp2_with fail
  (with_reducible refine HIt.out.mono ?_)
  rintro e w1 ⟨rfl, hb1⟩
  have hB1 : Below B w w1 := hb1.mono HB.out
  obtain ⟨w2, hw2, hb2, hr2, hs2⟩ := one w1 9 [.string (bs (dig n))]
  have hB2 : Below B w w2 := hB1.trans (hb2.mono (Nat.le_trans HB.out hB1.size))
  have HW2 := Lib.hid hw2
  have HB2 := Lib.hid hB2
  have hF2 : Fw w w2 := (Fw.below hb1).trans (Fw.below hb2)
  have hwo := word_k 1 B b w1.heap.size l [bs (dig n)] rfl w2 ((HI.out.below hb1).below hb2) hr2 (by intro s hs; obtain rfl : s = bs (dig n) := (by simpa using hs); rw [bl_bs]; have := dig_len n; omega) (show 1 ≤ 5 by decide) hl (Nat.le_trans HB.out hB2.size) (HT.out.below hB2 HG.out) HG.out
  have HWo := Lib.hid hwo
  have HF2 := Lib.hid hF2
  clear hb1 hB1 hw2 hb2 hr2 hs2 hB2 hwo hF2 HIt
  go_wp2_with (rw [HW2.out])
  (with_reducible refine HWo.out.mono ?_)
  rintro e w3 ⟨rfl, hi3, hb3, hf3⟩
  go_wp2_with fail
  go_returns
  refine ⟨rfl, ?_, HB2.out.trans hb3, HF2.out.trans hf3⟩
  have e1 : wordsL [bs (dig n)] = numL n := by unfold wordsL numL; simp
  rw [e1] at hi3
  exact hi3
end Go.Proofs.YtpjaopcgoaannaaGreatDoor
