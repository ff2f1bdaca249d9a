/- Cutting bytes: the plain law; tokens behind tokens in memory. -/
import Derived.Test.YtppgjkjdddanbaaDoorH6
import Derived.Test.YtppgjkjdddanbaaDoorH8
import Derived.Laws.AppendOwnNone
namespace Go.Proofs.YtppgjkjdddanbaaDoor
open Go.RowKit
open Hb

theorem runP_broke (p : PS) (l m : List UInt8) (h : (runP p l).2.2 ≠ 0) : runP p (l ++ m) = runP p l := by
  induction l generalizing p with
  | nil => exact absurd rfl h
  | cons c l ih =>
    by_cases h0 : (takeP p c).2.2 = 0
    · rw [runP_step h0] at h
      rw [List.cons_append, runP_step h0, runP_step h0, ih (takeP p c).1 h]
    · rw [List.cons_append, runP_stop h0, runP_stop h0]

theorem beginP_attrs {p p' : PS} {s : ByteArray} {l : List Tok} (h : beginP p s = .ok (p', l)) : ∀ t ∈ l, t.attrs.length ≤ 8 := by
  unfold beginP at h
  dsimp only at h
  split at h
  · cases ha : attrsR ((cutSuf s ⟨#[47]⟩).1.extract (nameLen (cutSuf s ⟨#[47]⟩).1.data.toList) (cutSuf s ⟨#[47]⟩).1.size) with
    | none => rw [ha] at h; unfold beginO at h; cases h
    | some al =>
      rw [ha] at h
      unfold beginO beginT at h
      dsimp only at h
      split at h
      · cases h
      · split at h
        · cases h
        · rename_i h8
          split at h
          · cases h
          · split at h
            · cases h
            · split at h
              · cases h
                intro t ht
                simp only [List.mem_cons, List.not_mem_nil, or_false] at ht
                rcases ht with rfl | rfl
                · show al.length ≤ 8
                  omega
                · exact Nat.zero_le _
              · cases h
                intro t ht
                simp only [List.mem_cons, List.not_mem_nil, or_false] at ht
                subst ht
                show al.length ≤ 8
                omega
  · cases h
theorem tagP_attrs {p p' : PS} {s : ByteArray} {l : List Tok} (h : tagP p s = .ok (p', l)) : ∀ t ∈ l, t.attrs.length ≤ 8 := by
  unfold tagP at h
  dsimp only at h
  split at h
  · split at h
    · cases h
      intro t ht
      cases ht
    · split at h
      · cases h
      · split at h
        · unfold endP at h
          split at h
          · cases h
            intro t ht
            simp only [List.mem_cons, List.not_mem_nil, or_false] at ht
            subst ht
            exact Nat.zero_le _
          · cases h
        · exact beginP_attrs h
  · cases h
theorem takeT_attrs (p : PS) (c : UInt8) : ∀ t ∈ (takeT p c).2.1, t.attrs.length ≤ 8 := by
  unfold takeT
  dsimp only
  repeat' split
  all_goals first | (intro t ht; cases ht; done) | skip
  all_goals (rename_i ht; exact tagP_attrs ht)
theorem takeP_attrs (p : PS) (c : UInt8) : ∀ t ∈ (takeP p c).2.1, t.attrs.length ≤ 8 := by
  unfold takeP
  split
  · cases hc : charsP p.opn ⟨p.wait.toArray⟩ with
    | none => intro t ht; cases ht
    | some m =>
      intro t ht
      dsimp only at ht
      rcases List.mem_append.1 ht with ht | ht
      · unfold charsP at hc
        split at hc
        · cases hu : unesc ((⟨p.wait.toArray⟩ : ByteArray).size + 1) (⟨p.wait.toArray⟩ : ByteArray).data.toList with
          | none => rw [hu] at hc; cases hc
          | some tx =>
            rw [hu] at hc
            cases ho : p.opn with
            | nil =>
              rw [ho] at hc
              dsimp only at hc
              split at hc
              · cases hc; cases ht
              · cases hc
            | cons x y =>
              rw [ho] at hc
              cases tx with
              | nil => cases hc; cases ht
              | cons b tx =>
                cases hc
                simp only [List.mem_cons, List.not_mem_nil, or_false] at ht
                subst ht
                exact Nat.zero_le _
        · cases hc
      · exact takeT_attrs _ c t ht
  · exact takeT_attrs p c
theorem runP_attrs : ∀ (l : List UInt8) (p : PS), ∀ t ∈ (runP p l).2.1, t.attrs.length ≤ 8
  | [], _, t, ht => by cases ht
  | c :: b, p, t, ht => by
    by_cases h0 : (takeP p c).2.2 = 0
    · rw [runP_step h0] at ht
      dsimp only at ht
      rcases List.mem_append.1 ht with ht | ht
      · exact takeP_attrs p c t ht
      · exact runP_attrs b _ t ht
    · rw [runP_stop h0] at ht
      exact takeP_attrs p c t ht

theorem tokCells_app {w : World} : ∀ {ts us : List Tok} {cs ds : List Value}, TokCells w ts cs → TokCells w us ds → TokCells w (ts ++ us) (cs ++ ds)
  | [], _, _, _, h, k => by cases h; exact k
  | t :: ts, us, _, ds, ⟨va, rest, rfl, ha, h⟩, k => ⟨va, rest ++ ds, rfl, ha, tokCells_app h k⟩
theorem tokCells_one {w : World} : ∀ {ts : List Tok} {cs : List Value}, TokCells w ts cs → ∀ u ∈ cs, u.oneCell' = true
  | [], _, h, u, hu => by cases h; cases hu
  | t :: ts, _, ⟨va, rest, rfl, ha, h⟩, u, hu => by
    simp only [List.mem_cons] at hu
    rcases hu with rfl | rfl | rfl | rfl | hu
    · rfl
    · rfl
    · obtain ⟨a, c, rfl⟩ := row_slice ha
      rfl
    · rfl
    · exact tokCells_one h u hu

/-- the length of what is told -/
theorem runP_len3 (l : List UInt8) (p : PS) (h : Fit8 p) : (runP p l).2.1.length ≤ 3 * l.length := by
  induction l generalizing p with
  | nil => exact Nat.zero_le _
  | cons c b ih =>
    have h3 := (takeP_fit p c h).2.2.1
    by_cases h0 : (takeP p c).2.2 = 0
    · rw [runP_step h0]
      dsimp only
      rw [List.length_append, List.length_cons]
      have := ih _ (takeP_fit8 h h0)
      omega
    · rw [runP_stop h0]
      dsimp only
      rw [List.length_cons]
      omega
end Go.Proofs.YtppgjkjdddanbaaDoor
