/- XmlEmpty: the plain law. -/
import Derived.Test.YtppgjkjdddanbaaDoorH6
namespace Go.Proofs.YtppgjkjdddanbaaDoor
open Go.RowKit
open Hb

def letterB (c : UInt8) : Prop := 97 ≤ c.toNat ∧ c.toNat < 123
def gapB (c : UInt8) : Prop := c = 32 ∨ c = 9 ∨ c = 10 ∨ c = 13

theorem letter_nm {c : UInt8} (h : letterB c) : nmCh c = true := by unfold nmCh firstN; simp; left; left; exact h
theorem gap_nm {c : UInt8} (h : gapB c) : nmCh c = false := by rcases h with rfl | rfl | rfl | rfl <;> decide
theorem gap_blank {c : UInt8} (h : gapB c) : blank c = true := by rcases h with rfl | rfl | rfl | rfl <;> decide

theorem nameLen_app (nm gp : List UInt8) (h1 : ∀ c ∈ nm, letterB c) (h2 : ∀ c ∈ gp, gapB c) : nameLen (nm ++ gp) = nm.length := by
  unfold nameLen
  induction nm with
  | nil =>
    cases gp with
    | nil => rfl
    | cons b l =>
      rw [List.nil_append, List.takeWhile_cons, gap_nm (h2 b (by simp))]
      rfl
  | cons a nm ih =>
    rw [List.cons_append, List.takeWhile_cons, letter_nm (h1 a (by simp)), if_pos rfl, List.length_cons, ih (fun c hc => h1 c (by simp [hc]))]
    rfl
theorem okFrom_letters : ∀ (nm : List UInt8) (b : Bool), (∀ c ∈ nm, letterB c) → okFrom b nm = true
  | [], _, _ => rfl
  | c :: nm, b, h => by
    unfold okFrom
    rw [okFrom_letters nm false (fun x hx => h x (by simp [hx]))]
    have : firstN c.toNat = true := by unfold firstN; simp; left; exact h c (by simp)
    simp [this]
theorem isName_letters (nm : List UInt8) (h : ∀ c ∈ nm, letterB c) (h1 : 1 ≤ nm.length) (h2 : nm.length ≤ 32) : isName nm = true := by
  unfold isName
  rw [okFrom_letters nm true h]
  simp [h1, h2]
theorem lead_gap : ∀ (gp : List UInt8), (∀ c ∈ gp, gapB c) → lead gp = gp.length
  | [], _ => rfl
  | c :: gp, h => by
    have ih := lead_gap gp (fun x hx => h x (by simp [hx]))
    unfold lead at *
    rw [List.takeWhile_cons, gap_blank (h c (by simp)), if_pos rfl, List.length_cons, ih, List.length_cons]
theorem space_gap (gp : List UInt8) (h : ∀ c ∈ gp, gapB c) : space gp = true := by
  unfold space
  exact List.all_eq_true.2 (fun c hc => gap_blank (h c hc))

theorem ext_take (l m : List UInt8) : (⟨(l ++ m).toArray⟩ : ByteArray).extract 0 l.length = ⟨l.toArray⟩ := by
  rw [Lib.extract_eq]
  congr 1
  simp
theorem ext_drop (l m : List UInt8) : (⟨(l ++ m).toArray⟩ : ByteArray).extract l.length (⟨(l ++ m).toArray⟩ : ByteArray).size = ⟨m.toArray⟩ := by
  have hs : (⟨(l ++ m).toArray⟩ : ByteArray).size = l.length + m.length := by rw [Lib.size_eq]; simp
  rw [Lib.extract_eq, hs]
  congr 1
  simp
theorem ext_cons (b : UInt8) (m : List UInt8) : (⟨(b :: m).toArray⟩ : ByteArray).extract 1 (⟨(b :: m).toArray⟩ : ByteArray).size = ⟨m.toArray⟩ := ext_drop [b] m

theorem cutSuf_yes (l : List UInt8) : cutSuf ⟨(l ++ [47]).toArray⟩ ⟨#[47]⟩ = (⟨l.toArray⟩, true) := by
  have hs : sufB ⟨(l ++ [47]).toArray⟩ ⟨#[47]⟩ = true := by
    unfold sufB Lib.hasSuffix
    show List.isSuffixOf [47] (l ++ [47]) = true
    exact List.isSuffixOf_iff_suffix.2 ⟨l, rfl⟩
  unfold cutSuf
  rw [if_pos hs]
  have hz : (⟨(l ++ [47]).toArray⟩ : ByteArray).size - (⟨#[47]⟩ : ByteArray).size = l.length := by rw [Lib.size_eq, Lib.size_eq]; simp
  rw [hz, ext_take]
theorem cutSuf_no (l : List UInt8) (h : ∀ c ∈ l, c ≠ 47) : cutSuf ⟨l.toArray⟩ ⟨#[47]⟩ = (⟨l.toArray⟩, false) := by
  have hs : ¬ sufB ⟨l.toArray⟩ ⟨#[47]⟩ = true := by
    unfold sufB Lib.hasSuffix
    show ¬ List.isSuffixOf [47] l = true
    intro hh
    obtain ⟨t, ht⟩ := List.isSuffixOf_iff_suffix.1 hh
    exact h 47 (by rw [← ht]; simp) rfl
  unfold cutSuf
  rw [if_neg hs]

/-- a beginning without attributes -/
theorem begin_plain (p : PS) (nm gp : List UInt8) (em : Bool) (h1 : ∀ c ∈ nm, letterB c) (h2 : ∀ c ∈ gp, gapB c) (h3 : 1 ≤ nm.length) (h4 : nm.length ≤ 32) (i : ByteArray) (hi : cutSuf i ⟨#[47]⟩ = (⟨(nm ++ gp).toArray⟩, em)) :
    beginP p i = beginT p ⟨nm.toArray⟩ [] em := by
  unfold beginP
  dsimp only
  rw [hi]
  dsimp only
  have hnl : nameLen (⟨(nm ++ gp).toArray⟩ : ByteArray).data.toList = nm.length := nameLen_app nm gp h1 h2
  have hok : nameOk ⟨(nm ++ gp).toArray⟩ = true := by
    unfold nameOk
    rw [hnl]
    show isName ((nm ++ gp).take nm.length) = true
    rw [List.take_left]
    exact isName_letters nm h1 h3 h4
  rw [if_pos hok, hnl, ext_take, ext_drop]
  have hat : attrsR ⟨gp.toArray⟩ = some [] := attrsR_end (by rw [Lib.size_eq]; exact lead_gap gp h2)
  rw [hat]
  rfl

theorem preB_no (b c : UInt8) (l : List UInt8) (h : b ≠ c) : preB ⟨(b :: l).toArray⟩ ⟨#[c]⟩ = false := by rw [preB_list]; simpa using h
theorem cutPre_no (b c : UInt8) (l : List UInt8) (h : b ≠ c) : (cutPre ⟨(b :: l).toArray⟩ ⟨#[c]⟩).2 = false := by
  unfold cutPre
  rw [if_neg (by rw [preB_no b c l h]; decide)]
theorem decl_no (p : PS) (b : UInt8) (l : List UInt8) (h : b ≠ 63) : declB p ⟨(b :: l).toArray⟩ = false := by
  unfold declB
  have hp : ¬ preB ⟨(b :: l).toArray⟩ ⟨#[63, 120, 109, 108]⟩ = true := by
    unfold preB
    simp only [Bool.and_eq_true, decide_eq_true_eq, beq_iff_eq, not_and]
    intro _ he
    have h2 : (ByteArray.mk #[63, 120, 109, 108]).size = 4 := rfl
    rw [h2, Lib.extract_eq, ByteArray.toList_eq, ByteArray.toList_eq] at he
    simp at he
    exact h he.1
  unfold cutPre
  rw [if_neg hp]
  rfl

theorem letter_ne {b : UInt8} (h : letterB b) (c : UInt8) (hc : c.toNat < 97) : b ≠ c := by
  rintro rfl
  have := h.1
  omega

/-- a tag that begins -/
theorem tag_plain (p : PS) (b : UInt8) (nm gp : List UInt8) (em : Bool) (h1 : ∀ c ∈ b :: nm, letterB c) (h2 : ∀ c ∈ gp, gapB c) (h4 : nm.length < 32) (m : List UInt8) (hm : ∃ r, m = b :: r) (hch : ∀ c ∈ m, fineB c) (hi : cutSuf ⟨m.toArray⟩ ⟨#[47]⟩ = (⟨(b :: nm ++ gp).toArray⟩, em)) :
    tagP p ⟨(60 :: (m ++ [62])).toArray⟩ = beginT p ⟨(b :: nm).toArray⟩ [] em := by
  obtain ⟨r, rfl⟩ := hm
  have hb := h1 b (by simp)
  have hc : chars (60 :: ((b :: r) ++ [62])) = true := by
    apply chars_fine
    intro c hc
    simp only [List.mem_cons, List.mem_append, List.not_mem_nil, or_false] at hc
    rcases hc with rfl | (rfl | hc) | rfl
    · exact ⟨by decide, .inl (by decide)⟩
    · exact hch _ (by simp)
    · exact hch c (by simp [hc])
    · exact ⟨by decide, .inl (by decide)⟩
  have hx := extract_mid (b :: r) 60 62
  rw [tagP_begin hc (by rw [hx]; exact decl_no p b r (letter_ne hb 63 (by decide))) (by rw [hx]; exact preB_no b 33 r (letter_ne hb 33 (by decide))) (by rw [hx]; exact preB_no b 63 r (letter_ne hb 63 (by decide))) (by rw [hx]; exact cutPre_no b 47 r (letter_ne hb 47 (by decide))), hx]
  exact begin_plain p (b :: nm) gp em h1 h2 (by simp) (by simp only [List.length_cons]; omega) _ hi

theorem fine_letter {c : UInt8} (h : letterB c) : fineB c := ⟨by have := h.2; omega, .inl (by have := h.1; omega)⟩
theorem fine_gap {c : UInt8} (h : gapB c) : fineB c := by rcases h with rfl | rfl | rfl | rfl <;> exact ⟨by decide, by decide⟩
theorem plain_letter {c : UInt8} (h : letterB c) : plainB c := ⟨letter_ne h 0 (by decide), letter_ne h 39 (by decide), letter_ne h 34 (by decide), letter_ne h 62 (by decide)⟩
theorem plain_gap {c : UInt8} (h : gapB c) : plainB c := by rcases h with rfl | rfl | rfl | rfl <;> exact ⟨by decide, by decide, by decide, by decide⟩

/-- blanks outside of an element -/
theorem runP_blank : ∀ (g : List UInt8) (p : PS), (∀ c ∈ g, gapB c) → p.wait.head? ≠ some 60 → p.wait.length + g.length ≤ 512 → (runP p g).2 = ([], 0)
  | [], _, _, _, _ => rfl
  | c :: g, p, h, hw, hl => by
    have hc := h c (by simp)
    simp only [List.length_cons] at hl
    have hc60 : c ≠ 60 := by rcases hc with rfl | rfl | rfl | rfl <;> decide
    have hE : endsText p c = false := by unfold endsText; simp [hc60]
    have hb : ∃ b l, p.wait ++ [c] = b :: l ∧ b ≠ 60 := by
      cases hw2 : p.wait with
      | nil => exact ⟨c, [], rfl, hc60⟩
      | cons b l => rw [hw2] at hw; exact ⟨b, l ++ [c], rfl, by simpa using hw⟩
    obtain ⟨b, l, hbl, hb60⟩ := hb
    have hll : (b :: l).length ≤ 512 := by rw [← hbl, List.length_append]; simp only [List.length_singleton]; omega
    have h1 : takeP p c = ({ p with wait := b :: l }, [], 0) := by
      rw [takeP_more hE]
      unfold addT
      rw [takeT_text hbl hb60, if_pos hll]
      rfl
    rw [runP_step (by rw [h1]), h1]
    have h2 := runP_blank g { p with wait := b :: l } (fun x hx => h x (by simp [hx])) (by simpa using hb60) (by rw [← hbl, List.length_append]; simp only [List.length_singleton]; omega)
    dsimp only
    rw [h2]
    rfl

def toks2 (N : ByteArray) : List Tok := [⟨1, N, [], ⟨#[]⟩⟩, ⟨2, N, [], ⟨#[]⟩⟩]

section
variable (b : UInt8) (nm gp : List UInt8) (h1 : ∀ c ∈ b :: nm, letterB c) (h2 : ∀ c ∈ gp, gapB c) (h4 : nm.length < 32) (h5 : gp.length ≤ 10)
include h1 h2 h4 h5

/-- '<name gap/>' -/
theorem one_tag : ∃ p', runP ps0 (60 :: (((b :: nm) ++ gp ++ [47]) ++ [62])) = (p', toks2 ⟨(b :: nm).toArray⟩, 0) ∧ p'.wait = [] := by
  have ht := tag_plain ps0 b nm gp true h1 h2 h4 ((b :: nm) ++ gp ++ [47]) ⟨nm ++ gp ++ [47], by simp⟩ (fun c hc => by
    simp only [List.mem_append, List.mem_singleton] at hc
    rcases hc with (hc | hc) | rfl
    · exact fine_letter (h1 c hc)
    · exact fine_gap (h2 c hc)
    · exact ⟨by decide, .inl (by decide)⟩) (cutSuf_yes _)
  have hr := runP_tag (p := ps0) (m := (b :: nm) ++ gp ++ [47]) rfl rfl (by simp only [List.length_append, List.length_cons, List.length_nil]; omega) (fun c hc => by
    simp only [List.mem_append, List.mem_singleton] at hc
    rcases hc with (hc | hc) | rfl
    · exact plain_letter (h1 c hc)
    · exact plain_gap (h2 c hc)
    · exact ⟨by decide, by decide, by decide, by decide⟩)
  rw [ht] at hr
  rw [hr]
  exact ⟨_, rfl, rfl⟩

theorem empty_one (hg : gp = []) : ∃ p', runP ps0 ([60] ++ (b :: nm) ++ [47, 62]) = (p', toks2 ⟨(b :: nm).toArray⟩, 0) := by
  obtain ⟨p', h, _⟩ := one_tag b nm gp h1 h2 h4 h5
  subst hg
  refine ⟨p', ?_⟩
  rw [← h]
  congr 1
  simp

theorem empty_three : ∃ p', runP ps0 ([60] ++ (b :: nm) ++ gp ++ [47, 62] ++ gp) = (p', toks2 ⟨(b :: nm).toArray⟩, 0) := by
  obtain ⟨p', h, hw⟩ := one_tag b nm gp h1 h2 h4 h5
  have he : [60] ++ (b :: nm) ++ gp ++ [47, 62] ++ gp = (60 :: (((b :: nm) ++ gp ++ [47]) ++ [62])) ++ gp := by simp
  rw [he, runP_append _ _ _ (by rw [h]), h]
  have h3 := runP_blank gp p' h2 (by rw [hw]; simp) (by rw [hw]; simp; omega)
  refine ⟨(runP p' gp).1, ?_⟩
  dsimp only
  rw [show (runP p' gp).2.1 = [] by rw [h3], show (runP p' gp).2.2 = 0 by rw [h3], List.append_nil]

theorem empty_two : ∃ p', runP ps0 ([60] ++ (b :: nm) ++ gp ++ [62, 60, 47] ++ (b :: nm) ++ gp ++ [62]) = (p', toks2 ⟨(b :: nm).toArray⟩, 0) := by
  have hns : ∀ c ∈ (b :: nm) ++ gp, c ≠ 47 := fun c hc => by
    rcases List.mem_append.1 hc with hc | hc
    · exact letter_ne (h1 c hc) 47 (by decide)
    · rcases h2 c hc with rfl | rfl | rfl | rfl <;> decide
  have hfine : ∀ c ∈ (b :: nm) ++ gp, fineB c := fun c hc => by
    rcases List.mem_append.1 hc with hc | hc
    · exact fine_letter (h1 c hc)
    · exact fine_gap (h2 c hc)
  have hplain : ∀ c ∈ (b :: nm) ++ gp, plainB c := fun c hc => by
    rcases List.mem_append.1 hc with hc | hc
    · exact plain_letter (h1 c hc)
    · exact plain_gap (h2 c hc)
  have ht := tag_plain ps0 b nm gp false h1 h2 h4 ((b :: nm) ++ gp) ⟨nm ++ gp, rfl⟩ hfine (cutSuf_no _ hns)
  have hr := runP_tag (p := ps0) (m := (b :: nm) ++ gp) rfl rfl (by simp only [List.length_append, List.length_cons]; omega) hplain
  rw [ht] at hr
  have hr2 : runP ps0 (60 :: (((b :: nm) ++ gp) ++ [62])) = (⟨[], 0, [⟨(b :: nm).toArray⟩], true, true, 0⟩, [⟨1, ⟨(b :: nm).toArray⟩, [], ⟨#[]⟩⟩], 0) := by
    rw [hr]; rfl
  have he : [60] ++ (b :: nm) ++ gp ++ [62, 60, 47] ++ (b :: nm) ++ gp ++ [62] = (60 :: (((b :: nm) ++ gp) ++ [62])) ++ (60 :: ((47 :: ((b :: nm) ++ gp)) ++ [62])) := by simp
  rw [he, runP_append _ _ _ (by rw [hr2]), hr2]
  dsimp only
  have hc : chars (60 :: ((47 :: ((b :: nm) ++ gp)) ++ [62])) = true := by
    apply chars_fine
    intro c hc
    rcases List.mem_cons.1 hc with rfl | hc
    · exact ⟨by decide, .inl (by decide)⟩
    · rcases List.mem_append.1 hc with hc | hc
      · rcases List.mem_cons.1 hc with rfl | hc
        · exact ⟨by decide, .inl (by decide)⟩
        · exact hfine c hc
      · rw [List.mem_singleton.1 hc]; exact ⟨by decide, .inl (by decide)⟩
  have hx := extract_mid (47 :: ((b :: nm) ++ gp)) 60 62
  have hcp : cutPre ⟨(47 :: ((b :: nm) ++ gp)).toArray⟩ ⟨#[47]⟩ = (⟨((b :: nm) ++ gp).toArray⟩, true) := by
    unfold cutPre
    rw [if_pos (by rw [preB_list]; rfl)]
    have hz : (⟨#[47]⟩ : ByteArray).size = 1 := rfl
    rw [hz, ext_cons]
  have hnl : nameLen (⟨((b :: nm) ++ gp).toArray⟩ : ByteArray).data.toList = (b :: nm).length := nameLen_app (b :: nm) gp h1 h2
  have hok : nameOk ⟨((b :: nm) ++ gp).toArray⟩ = true := by
    unfold nameOk
    rw [hnl]
    show isName (((b :: nm) ++ gp).take (b :: nm).length) = true
    rw [List.take_left]
    exact isName_letters _ h1 (by simp) (by simp only [List.length_cons]; omega)
  have hend : tagP ⟨[], 0, [⟨(b :: nm).toArray⟩], true, true, 0⟩ ⟨(60 :: ((47 :: ((b :: nm) ++ gp)) ++ [62])).toArray⟩ = .ok (⟨[], 0, [], true, true, 0⟩, [⟨2, ⟨(b :: nm).toArray⟩, [], ⟨#[]⟩⟩]) := by
    have hte := tagP_end (p := ⟨[], 0, [⟨(b :: nm).toArray⟩], true, true, 0⟩) (s := ⟨(60 :: ((47 :: ((b :: nm) ++ gp)) ++ [62])).toArray⟩) hc (by rw [hx]; exact decl_no _ 47 ((b :: nm) ++ gp) (by decide)) (by rw [hx]; exact preB_no 47 33 ((b :: nm) ++ gp) (by decide)) (by rw [hx]; exact preB_no 47 63 ((b :: nm) ++ gp) (by decide)) (by rw [hx, hcp])
    rw [hx, hcp] at hte
    refine hte.trans ?_
    have hx1 : (⟨((b :: nm) ++ gp).toArray⟩ : ByteArray).extract 0 (nameLen (⟨((b :: nm) ++ gp).toArray⟩ : ByteArray).data.toList) = ⟨(b :: nm).toArray⟩ := by rw [hnl, ext_take]
    have hx2 : (⟨((b :: nm) ++ gp).toArray⟩ : ByteArray).extract (nameLen (⟨((b :: nm) ++ gp).toArray⟩ : ByteArray).data.toList) (⟨((b :: nm) ++ gp).toArray⟩ : ByteArray).size = ⟨gp.toArray⟩ := by rw [hnl, ext_drop]
    have hep := endP_ok (p := ⟨[], 0, [⟨(b :: nm).toArray⟩], true, true, 0⟩) (a := ⟨((b :: nm) ++ gp).toArray⟩) ⟨hok, by rw [hx2]; exact space_gap gp h2, by rw [hx1]; rfl⟩
    rw [hx1] at hep
    exact hep
  have hr3 := runP_tag (p := ⟨[], 0, [⟨(b :: nm).toArray⟩], true, true, 0⟩) (m := 47 :: ((b :: nm) ++ gp)) rfl rfl (by simp only [List.length_append, List.length_cons]; omega) (fun c hc => by
    rcases List.mem_cons.1 hc with rfl | hc
    · exact ⟨by decide, by decide, by decide, by decide⟩
    · exact hplain c hc)
  rw [hend] at hr3
  rw [hr3]
  exact ⟨_, rfl⟩
end
end Go.Proofs.YtppgjkjdddanbaaDoor
