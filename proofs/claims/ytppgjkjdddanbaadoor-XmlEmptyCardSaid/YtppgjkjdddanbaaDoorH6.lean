/- Bytes of a tag, one after the other; what is barred. No program in it. -/
import Derived.Test.YtppgjkjdddanbaaDoorH3
import Derived.Lib.TrimAscii
namespace Go.Proofs.YtppgjkjdddanbaaDoor
open Go.RowKit
open Hb

/-- ASCII that is a character -/
def fineB (b : UInt8) : Prop := b.toNat < 128 ∧ (32 ≤ b.toNat ∨ b = 9 ∨ b = 10 ∨ b = 13)
theorem chars_fine : ∀ l : List UInt8, (∀ b ∈ l, fineB b) → chars l = true
  | [], _ => rfl
  | b :: l, h => by
    have hb := h b (by simp)
    rw [chars_step (b :: l) (by simp), Go.Lib.decodeL_ascii b l hb.1]
    rw [if_neg]
    · exact chars_fine l (fun x hx => h x (by simp [hx]))
    · rintro (⟨h1, _⟩ | h1)
      · have := hb.1
        simp only at h1
        omega
      · unfold badR at h1
        simp only at h1
        have hlt := hb.1
        rcases hb.2 with h2 | rfl | rfl | rfl
        · omega
        · revert h1; decide
        · revert h1; decide
        · revert h1; decide

theorem runP_append (p : PS) (l m : List UInt8) (h : (runP p l).2.2 = 0) : runP p (l ++ m) = ((runP (runP p l).1 m).1, (runP p l).2.1 ++ (runP (runP p l).1 m).2.1, (runP (runP p l).1 m).2.2) := by
  induction l generalizing p with
  | nil => simp [runP]
  | cons c l ih =>
    by_cases h0 : (takeP p c).2.2 = 0
    · rw [runP_step h0] at h
      rw [List.cons_append, runP_step h0, runP_step h0, ih (takeP p c).1 h]
      simp
    · rw [runP_stop h0] at h
      exact absurd h h0

/-- a byte that a tag takes as it is -/
def plainB (c : UInt8) : Prop := c ≠ 0 ∧ c ≠ 39 ∧ c ≠ 34 ∧ c ≠ 62
theorem takeP_plain {p : PS} {l : List UInt8} {c : UInt8} (hw : p.wait = 60 :: l) (hq : p.quote = 0) (hl : l.length + 2 ≤ 2048) (hc : plainB c) : takeP p c = ({ p with wait := 60 :: (l ++ [c]) }, [], 0) := by
  have hE : endsText p c = false := by unfold endsText; rw [hw]; simp
  rw [takeP_more hE]
  unfold addT
  rw [takeT_other (p := p) (c := c) (l := l ++ [c]) (by rw [hw]; rfl) (by rw [List.length_append, List.length_singleton]; omega) (by rw [hq]; exact fun h => hc.1 h.symm) hq (by rintro (h | h); exact hc.2.1 h; exact hc.2.2.1 h) hc.2.2.2]
  rfl
theorem runP_plain : ∀ (m : List UInt8) (p : PS) (l : List UInt8), p.wait = 60 :: l → p.quote = 0 → l.length + m.length + 1 ≤ 2048 → (∀ c ∈ m, plainB c) → runP p m = ({ p with wait := 60 :: (l ++ m) }, [], 0)
  | [], p, l, hw, _, _, _ => by
    rw [List.append_nil, ← hw]; rfl
  | c :: m, p, l, hw, hq, hl, hm => by
    simp only [List.length_cons] at hl
    have h1 := takeP_plain hw hq (by omega) (hm c (by simp))
    rw [runP_step (by rw [h1]), h1]
    have h2 := runP_plain m { p with wait := 60 :: (l ++ [c]) } (l ++ [c]) rfl hq (by rw [List.length_append]; simp only [List.length_singleton]; omega) (fun x hx => hm x (by simp [hx]))
    rw [h2]
    simp
/-- a tag ends -/
theorem takeP_close {p : PS} {l : List UInt8} (hw : p.wait = 60 :: l) (hq : p.quote = 0) (hl : l.length + 2 ≤ 2048) : takeP p 62 = tagEnd p (tagP { p with wait := [] } ⟨(60 :: (l ++ [62])).toArray⟩) := by
  have hE : endsText p 62 = false := by unfold endsText; rw [hw]; simp
  rw [takeP_more hE]
  unfold addT
  rw [takeT_tag (p := p) (c := 62) (l := l ++ [62]) (by rw [hw]; rfl) (by rw [List.length_append, List.length_singleton]; omega) (by rw [hq]; decide) hq (by decide) rfl]
  rfl
/-- a tag begins -/
theorem takeP_open {p : PS} (hw : p.wait = []) (hq : p.quote = 0) : takeP p 60 = ({ p with wait := [60] }, [], 0) := by
  have hE : endsText p 60 = false := by unfold endsText; rw [hw]; rfl
  rw [takeP_more hE]
  unfold addT
  rw [takeT_other (p := p) (c := 60) (l := []) (by rw [hw]; rfl) (by decide) (by rw [hq]; decide) hq (by decide) (by decide)]
  rfl

/-- a whole tag without quotes -/
theorem runP_tag {p : PS} {m : List UInt8} (hw : p.wait = []) (hq : p.quote = 0) (hl : m.length + 2 ≤ 2048) (hm : ∀ c ∈ m, plainB c) :
    runP p (60 :: (m ++ [62])) = (let r := tagEnd { p with wait := 60 :: m } (tagP p ⟨(60 :: (m ++ [62])).toArray⟩); if r.2.2 = 0 then (r.1, r.2.1, 0) else ({ r.1 with broken := r.2.2 }, r.2.1, r.2.2)) := by
  have h1 := takeP_open hw hq
  have h2 := runP_plain m { p with wait := [60] } [] rfl hq (by simp only [List.length_nil]; omega) hm
  rw [runP_step (by rw [h1]), h1]
  dsimp only
  rw [runP_append _ m [62] (by rw [h2]), h2]
  dsimp only
  have h3 := takeP_close (p := { p with wait := 60 :: m }) (l := m) rfl hq hl
  rw [List.nil_append]
  have hp : ({ p with wait := [] } : PS) = p := by rw [← hw]
  simp only [hp] at h3
  by_cases h0 : (takeP { p with wait := 60 :: m } 62).2.2 = 0
  · rw [runP_step h0, h3]
    rw [h3] at h0
    rw [if_pos h0]
    simp [runP]
  · rw [runP_stop h0, h3]
    rw [h3] at h0
    rw [if_neg h0]
    simp

def pA : PS := ⟨[], 0, [⟨#[97]⟩], true, true, 0⟩
theorem bar_one : runP ps0 [60, 97, 62] = (pA, [⟨1, ⟨#[97]⟩, [], ⟨#[]⟩⟩], 0) := by kernel_rfl

theorem extract_mid (l : List UInt8) (a b : UInt8) : (⟨(a :: (l ++ [b])).toArray⟩ : ByteArray).extract 1 ((⟨(a :: (l ++ [b])).toArray⟩ : ByteArray).size - 1) = ⟨l.toArray⟩ := by
  rw [Lib.extract_eq]
  have hs : (⟨(a :: (l ++ [b])).toArray⟩ : ByteArray).size = l.length + 2 := by rw [Lib.size_eq]; simp
  rw [hs]
  congr 1
  simp

theorem preB_list (l : List UInt8) (c b : UInt8) : preB ⟨(b :: l).toArray⟩ ⟨#[c]⟩ = (b == c) := by
  unfold preB
  have h1 : (ByteArray.mk (b :: l).toArray).size = l.length + 1 := by rw [Lib.size_eq]; simp
  have h2 : (ByteArray.mk #[c]).size = 1 := rfl
  rw [h1, h2, Lib.extract_eq, ByteArray.toList_eq, ByteArray.toList_eq]
  simp

/-- a declaration or an instruction inside of an element -/
theorem barred (b : UInt8) (hb : b = 33 ∨ b = 63) (m : List UInt8) (hm : ∀ c ∈ m, 97 ≤ c.toNat ∧ c.toNat < 123) (hl : m.length ≤ 1000) :
    ∃ p', runP ps0 ([60, 97, 62] ++ (60 :: ((b :: m) ++ [62]))) = (p', [⟨1, ⟨#[97]⟩, [], ⟨#[]⟩⟩], 7) ∧ p'.broken = 7 := by
  have hpl : ∀ c ∈ b :: m, plainB c := by
    intro c hc
    rcases List.mem_cons.1 hc with rfl | hc
    · rcases hb with rfl | rfl <;> exact ⟨by decide, by decide, by decide, by decide⟩
    · have h := hm c hc
      refine ⟨?_, ?_, ?_, ?_⟩ <;> (rintro rfl; revert h; decide)
  have hch : chars (60 :: ((b :: m) ++ [62])) = true := by
    apply chars_fine
    intro c hc
    simp only [List.mem_cons, List.mem_append, List.not_mem_nil, or_false] at hc
    rcases hc with rfl | (rfl | hc) | rfl
    · exact ⟨by decide, .inl (by decide)⟩
    · rcases hb with rfl | rfl <;> exact ⟨by decide, .inl (by decide)⟩
    · have h := hm c hc
      exact ⟨by omega, .inl (by omega)⟩
    · exact ⟨by decide, .inl (by decide)⟩
  have htag : tagP pA ⟨(60 :: ((b :: m) ++ [62])).toArray⟩ = .error 7 := by
    have hd : declB pA ((⟨(60 :: ((b :: m) ++ [62])).toArray⟩ : ByteArray).extract 1 ((⟨(60 :: ((b :: m) ++ [62])).toArray⟩ : ByteArray).size - 1)) = false := by
      unfold declB
      show (_ && !true && _ && _) = false
      simp
    refine tagP_barred hch hd ?_
    rw [extract_mid, preB_list, preB_list]
    rcases hb with rfl | rfl
    · exact .inl (by decide)
    · exact .inr (by decide)
  have ht := runP_tag (p := pA) (m := b :: m) rfl rfl (by simp only [List.length_cons]; omega) hpl
  rw [htag] at ht
  rw [runP_append _ _ _ (by rw [bar_one]), bar_one]
  dsimp only
  rw [ht]
  exact ⟨_, rfl, rfl⟩
end Go.Proofs.YtppgjkjdddanbaaDoor
