/- what stays within bounds in the parser. No program in it. -/
import Derived.Test.YtppgjkjdddanbaaDoorG8
namespace Go.Proofs.YtppgjkjdddanbaaDoor
open Go.RowKit
open Hb

theorem beginP_opn {p p' : PS} {s : ByteArray} {l : List Tok} (h : beginP p s = .ok (p', l)) (ho : p.opn.length ≤ 8) : p'.opn.length ≤ 8 ∧ l.length ≤ 2 ∧ p'.wait = p.wait ∧ p'.broken = p.broken := by
  unfold beginP at h
  dsimp only at h
  split at h
  · cases ha : attrsR ((cutSuf s ⟨#[47]⟩).1.extract (nameLen (cutSuf s ⟨#[47]⟩).1.data.toList) (cutSuf s ⟨#[47]⟩).1.size) with
    | none => rw [ha] at h; unfold beginO at h; cases h
    | some al =>
      rw [ha] at h
      unfold beginO beginT at h
      dsimp only at h
      split at h
      · cases h
      · split at h
        · cases h
        · split at h
          · cases h
          · split at h
            · cases h
            · rename_i h4
              split at h
              · cases h
                exact ⟨ho, by simp, rfl, rfl⟩
              · cases h
                refine ⟨?_, by simp, rfl, rfl⟩
                simp
                omega
  · cases h

theorem tagP_opn {p p' : PS} {s : ByteArray} {l : List Tok} (h : tagP p s = .ok (p', l)) (ho : p.opn.length ≤ 8) : p'.opn.length ≤ 8 ∧ l.length ≤ 2 ∧ p'.wait = p.wait ∧ p'.broken = p.broken := by
  unfold tagP at h
  dsimp only at h
  split at h
  · split at h
    · cases h
      exact ⟨ho, by simp, rfl, rfl⟩
    · split at h
      · cases h
      · split at h
        · unfold endP at h
          split at h
          · cases h
            refine ⟨?_, by simp, rfl, rfl⟩
            simp
            omega
          · cases h
        · exact beginP_opn h ho
  · cases h

/-- the parser is fit to take a byte. -/
structure Fit8 (p : PS) : Prop where
  wait : p.wait.length ≤ 2048
  opn : p.opn.length ≤ 8

theorem takeT_fit (p : PS) (c : UInt8) (h : Fit8 p) : (takeT p c).1.opn.length ≤ 8 ∧ (takeT p c).1.wait.length ≤ 2049 ∧ (takeT p c).2.1.length ≤ 2 ∧ (takeT p c).1.broken = p.broken ∧ ((takeT p c).2.2 = 0 → (takeT p c).1.wait.length ≤ 2048) := by
  have hw := h.wait
  have ho := h.opn
  unfold takeT
  dsimp only
  split
  · refine ⟨ho, by simp; omega, by simp, rfl, fun h0 => ?_⟩
    dsimp only at h0 ⊢
    split at h0
    · omega
    · cases h0
  · split
    · refine ⟨ho, by simp; omega, by simp, rfl, fun h0 => by cases h0⟩
    · rename_i h1 h2
      have h3 : (p.wait ++ [c]).length ≤ 2048 := by omega
      split
      · exact ⟨ho, by dsimp only; omega, by simp, rfl, fun _ => h3⟩
      · split
        · exact ⟨ho, by dsimp only; omega, by simp, rfl, fun _ => h3⟩
        · split
          · exact ⟨ho, by dsimp only; omega, by simp, rfl, fun _ => h3⟩
          · split
            · cases ht : tagP { p with wait := [] } ⟨(p.wait ++ [c]).toArray⟩ with
              | error k => exact ⟨ho, by simp, by simp, rfl, fun _ => by simp⟩
              | ok y =>
                obtain ⟨p', l⟩ := y
                obtain ⟨h4, h5, h6, h7⟩ := tagP_opn ht ho
                refine ⟨h4, ?_, h5, h7, fun _ => ?_⟩
                · show p'.wait.length ≤ _
                  rw [h6]; simp
                · show p'.wait.length ≤ _
                  rw [h6]; simp
            · exact ⟨ho, by dsimp only; omega, by simp, rfl, fun _ => h3⟩

theorem takeP_fit (p : PS) (c : UInt8) (h : Fit8 p) : (takeP p c).1.opn.length ≤ 8 ∧ (takeP p c).1.wait.length ≤ 2049 ∧ (takeP p c).2.1.length ≤ 3 ∧ (takeP p c).1.broken = p.broken ∧ ((takeP p c).2.2 = 0 → (takeP p c).1.wait.length ≤ 2048) := by
  unfold takeP
  split
  · cases hc : charsP p.opn ⟨p.wait.toArray⟩ with
    | none => exact ⟨h.opn, by simp, by simp, rfl, fun _ => by simp⟩
    | some l =>
      have h1 := charsP_len hc
      obtain ⟨h2, h3, h4, h5, h6⟩ := takeT_fit { p with wait := [], begun := true } c ⟨by simp, h.opn⟩
      refine ⟨h2, h3, ?_, h5, h6⟩
      dsimp only
      rw [List.length_append]
      omega
  · obtain ⟨h2, h3, h4, h5, h6⟩ := takeT_fit p c h
    exact ⟨h2, h3, by omega, h5, h6⟩

theorem takeP_fit8 {p : PS} {c : UInt8} (h : Fit8 p) (h0 : (takeP p c).2.2 = 0) : Fit8 (takeP p c).1 := ⟨(takeP_fit p c h).2.2.2.2 h0, (takeP_fit p c h).1⟩

/-- the loop of Feed, from behind: what the rounds so far did. -/
theorem runP_step {p : PS} {c : UInt8} {b : List UInt8} (h0 : (takeP p c).2.2 = 0) : runP p (c :: b) = ((runP (takeP p c).1 b).1, (takeP p c).2.1 ++ (runP (takeP p c).1 b).2.1, (runP (takeP p c).1 b).2.2) := by
  rw [runP]
  dsimp only
  rw [if_pos h0]
theorem runP_stop {p : PS} {c : UInt8} {b : List UInt8} (h0 : (takeP p c).2.2 ≠ 0) : runP p (c :: b) = ({ (takeP p c).1 with broken := (takeP p c).2.2 }, (takeP p c).2.1, (takeP p c).2.2) := by
  rw [runP]
  dsimp only
  rw [if_neg h0]
end Go.Proofs.YtppgjkjdddanbaaDoor
