/- What is told is balanced: the plain law. No program in it. -/
import Derived.Test.YtppgjkjdddanbaaDoorH3
namespace Go.Proofs.YtppgjkjdddanbaaDoor
open Go.RowKit
open Hb

/-- the law's own check, as a function: what is open behind tokens, and the last token's kind. -/
def replay : List ByteArray → Nat → List Tok → Option (List ByteArray × Nat)
  | o, pk, [] => some (o, pk)
  | o, pk, t :: ts =>
    if t.kind = 1 then replay (o ++ [t.name]) t.kind ts
    else if t.kind = 2 then (if o.getLast? = some t.name then replay o.dropLast t.kind ts else none)
    else if t.kind = 3 then (if o ≠ [] ∧ t.text ≠ ⟨#[]⟩ ∧ pk ≠ 3 then replay o t.kind ts else none)
    else none

theorem replay_cons (o : List ByteArray) (pk : Nat) (t : Tok) (ts : List Tok) : replay o pk (t :: ts) = if t.kind = 1 then replay (o ++ [t.name]) t.kind ts
    else if t.kind = 2 then (if o.getLast? = some t.name then replay o.dropLast t.kind ts else none)
    else if t.kind = 3 then (if o ≠ [] ∧ t.text ≠ ⟨#[]⟩ ∧ pk ≠ 3 then replay o t.kind ts else none)
    else none := rfl
theorem replay_append : ∀ (l m : List Tok) (o : List ByteArray) (pk : Nat), replay o pk (l ++ m) = (replay o pk l).bind fun x => replay x.1 x.2 m
  | [], m, o, pk => rfl
  | t :: l, m, o, pk => by
    rw [List.cons_append, replay_cons, replay_cons]
    split
    · exact replay_append l m _ _
    · split
      · split
        · exact replay_append l m _ _
        · rfl
      · split
        · split
          · exact replay_append l m _ _
          · rfl
        · rfl

def lastKind (pk : Nat) : List Tok → Nat
  | [] => pk
  | t :: ts => lastKind t.kind ts
theorem replay_pk : ∀ (l : List Tok) (o : List ByteArray) (pk : Nat) (x : List ByteArray × Nat), replay o pk l = some x → x.2 = lastKind pk l
  | [], o, pk, x, h => by cases h; rfl
  | t :: l, o, pk, x, h => by
    unfold replay at h
    split at h
    · exact replay_pk l _ _ x h
    · split at h
      · split at h
        · exact replay_pk l _ _ x h
        · cases h
      · split at h
        · split at h
          · exact replay_pk l _ _ x h
          · cases h
        · cases h

theorem charsP_told {o : List ByteArray} {s : ByteArray} {l : List Tok} (h : charsP o s = some l) : l = [] ∨ ∃ b t, l = [⟨3, ⟨#[]⟩, [], ⟨(b :: t).toArray⟩⟩] ∧ o ≠ [] := by
  unfold charsP at h
  split at h
  · cases hu : unesc (s.size + 1) s.data.toList with
    | none => rw [hu] at h; cases h
    | some t =>
      rw [hu] at h
      cases o with
      | nil =>
        dsimp only at h
        split at h
        · cases h; exact .inl rfl
        · cases h
      | cons x y =>
        cases t with
        | nil => cases h; exact .inl rfl
        | cons b t => cases h; exact .inr ⟨b, t, rfl, by simp⟩
  · cases h

theorem beginP_told {p p' : PS} {s : ByteArray} {l : List Tok} (h : beginP p s = .ok (p', l)) (pk : Nat) : ∃ k, replay p.opn pk l = some (p'.opn, k) ∧ k ≠ 3 ∧ l ≠ [] := by
  unfold beginP at h
  dsimp only at h
  split at h
  · cases ha : attrsR ((cutSuf s ⟨#[47]⟩).1.extract (nameLen (cutSuf s ⟨#[47]⟩).1.data.toList) (cutSuf s ⟨#[47]⟩).1.size) with
    | none => rw [ha] at h; unfold beginO at h; cases h
    | some al =>
      rw [ha] at h
      unfold beginO beginT at h
      dsimp only at h
      split at h
      · cases h
      · split at h
        · cases h
        · split at h
          · cases h
          · split at h
            · cases h
            · split at h
              · cases h
                refine ⟨2, ?_, by decide, by simp⟩
                simp [replay]
              · cases h
                refine ⟨1, ?_, by decide, by simp⟩
                simp [replay]
  · cases h

theorem tagP_told {p p' : PS} {s : ByteArray} {l : List Tok} (h : tagP p s = .ok (p', l)) (pk : Nat) : (l = [] ∧ p' = p ∧ p.begun = false) ∨ ∃ k, replay p.opn pk l = some (p'.opn, k) ∧ k ≠ 3 ∧ l ≠ [] := by
  unfold tagP at h
  dsimp only at h
  split at h
  · split at h
    · rename_i hd
      cases h
      refine .inl ⟨rfl, rfl, ?_⟩
      unfold declB at hd
      cases hb : p.begun with
      | false => rfl
      | true => rw [hb] at hd; simp at hd
    · split at h
      · cases h
      · split at h
        · unfold endP at h
          split at h
          · rename_i hh
            cases h
            refine .inr ⟨2, ?_, by decide, by simp⟩
            simp [replay, hh.2.2]
          · cases h
        · exact .inr (beginP_told h pk)
  · cases h

/-- a text can't end next -/
def NoText (p : PS) (pk : Nat) : Prop := pk = 3 → p.wait.head? = some 60 ∧ p.begun = true

theorem takeT_told (p : PS) (c : UInt8) (pk : Nat) (hN : NoText p pk) : ∃ k, replay p.opn pk (takeT p c).2.1 = some ((takeT p c).1.opn, k) ∧ ((takeT p c).2.2 = 0 → NoText (takeT p c).1 k) := by
  have hh : p.wait.head? = some 60 → (p.wait ++ [c]).head? = some 60 := by
    intro h
    cases hw : p.wait with
    | nil => rw [hw] at h; cases h
    | cons b l => rw [hw] at h; exact h
  have hk : ∀ q : PS, q.wait = p.wait ++ [c] → q.begun = p.begun → NoText q pk := fun q h1 h2 h3 => by
    rw [h1, h2]
    exact ⟨hh (hN h3).1, (hN h3).2⟩
  unfold takeT
  dsimp only
  split
  · exact ⟨pk, rfl, fun _ => hk _ rfl rfl⟩
  · split
    · exact ⟨pk, rfl, fun h => by cases h⟩
    · split
      · exact ⟨pk, rfl, fun _ => hk _ rfl rfl⟩
      · split
        · exact ⟨pk, rfl, fun _ => hk _ rfl rfl⟩
        · split
          · exact ⟨pk, rfl, fun _ => hk _ rfl rfl⟩
          · split
            · cases ht : tagP { p with wait := [] } ⟨(p.wait ++ [c]).toArray⟩ with
              | error k => exact ⟨pk, rfl, fun h => absurd h (tagP_nz k ht)⟩
              | ok y =>
                obtain ⟨p', l⟩ := y
                rcases tagP_told ht pk with ⟨rfl, rfl, hb⟩ | ⟨k, h1, h2, _⟩
                · refine ⟨pk, rfl, fun _ h3 => ?_⟩
                  have := (hN h3).2
                  change p.begun = false at hb
                  rw [hb] at this
                  cases this
                · exact ⟨k, h1, fun _ h3 => absurd h3 h2⟩
            · exact ⟨pk, rfl, fun _ => hk _ rfl rfl⟩

theorem takeP_told (p : PS) (c : UInt8) (pk : Nat) (hN : NoText p pk) : ∃ k, replay p.opn pk (takeP p c).2.1 = some ((takeP p c).1.opn, k) ∧ ((takeP p c).2.2 = 0 → NoText (takeP p c).1 k) := by
  cases hE : endsText p c with
  | false =>
    rw [takeP_more hE]
    obtain ⟨k, h1, h2⟩ := takeT_told p c pk hN
    exact ⟨k, by unfold addT; simpa using h1, h2⟩
  | true =>
    have hc : c = 60 ∧ ∃ b l, p.wait = b :: l ∧ b ≠ 60 := by
      unfold endsText at hE
      simp only [Bool.and_eq_true, beq_iff_eq] at hE
      refine ⟨hE.1, ?_⟩
      cases hw : p.wait with
      | nil => rw [hw] at hE; simp at hE
      | cons b l => rw [hw] at hE; exact ⟨b, l, rfl, by simpa using hE.2⟩
    obtain ⟨hc, b, l, hw, hb⟩ := hc
    have hpk : pk ≠ 3 := fun h => by
      have := (hN h).1
      rw [hw] at this
      exact hb (by simpa using this)
    cases hcp : charsP p.opn ⟨p.wait.toArray⟩ with
    | none =>
      rw [takeP_bad hE hcp]
      exact ⟨pk, rfl, fun h => by cases h⟩
    | some m =>
      rw [takeP_text hE hcp]
      have hm : ∃ k, replay p.opn pk m = some (p.opn, k) := by
        rcases charsP_told hcp with rfl | ⟨x, y, rfl, ho⟩
        · exact ⟨pk, rfl⟩
        · refine ⟨3, ?_⟩
          simp [replay, ho, hpk]
      obtain ⟨k, hk⟩ := hm
      subst hc
      have ht : (takeT { p with wait := [], begun := true } 60).2.1 = [] ∧ (takeT { p with wait := [], begun := true } 60).1.opn = p.opn ∧ (takeT { p with wait := [], begun := true } 60).1.wait = [60] ∧ (takeT { p with wait := [], begun := true } 60).1.begun = true := by
        unfold takeT
        dsimp only
        rw [if_neg (by simp), if_neg (by simp)]
        split
        · exact ⟨rfl, rfl, rfl, rfl⟩
        · split
          · exact ⟨rfl, rfl, rfl, rfl⟩
          · rw [if_neg (by decide), if_neg (by decide)]
            exact ⟨rfl, rfl, rfl, rfl⟩
      obtain ⟨h1, h2, h3, h4⟩ := ht
      refine ⟨k, ?_, fun _ _ => ⟨?_, ?_⟩⟩
      · unfold addT
        dsimp only
        rw [h1, List.append_nil, h2]
        exact hk
      · unfold addT
        dsimp only
        rw [h3]; rfl
      · unfold addT
        dsimp only
        rw [h4]

theorem runP_told : ∀ (l : List UInt8) (p : PS) (pk : Nat), NoText p pk → ∃ k, replay p.opn pk (runP p l).2.1 = some ((runP p l).1.opn, k)
  | [], p, pk, _ => ⟨pk, rfl⟩
  | c :: b, p, pk, h => by
    obtain ⟨k, h1, h2⟩ := takeP_told p c pk h
    by_cases h0 : (takeP p c).2.2 = 0
    · obtain ⟨k2, h3⟩ := runP_told b (takeP p c).1 k (h2 h0)
      rw [runP_step h0]
      refine ⟨k2, ?_⟩
      dsimp only
      rw [replay_append, h1]
      exact h3
    · rw [runP_stop h0]
      exact ⟨k, h1⟩

theorem replay_len : ∀ (l : List Tok) (o : List ByteArray) (pk : Nat) (x : List ByteArray × Nat) {n : Nat}, replay o pk l = some x → l.length ≤ n → x.1.length ≤ o.length + n
  | [], o, pk, x, n, h, _ => by cases h; exact Nat.le_add_right _ _
  | t :: l, o, pk, x, n, h, hn => by
    rw [replay_cons] at h
    simp only [List.length_cons] at hn
    split at h
    · have := replay_len l _ _ x (n := n - 1) h (by omega)
      rw [List.length_append] at this
      simp only [List.length_cons, List.length_nil] at this
      omega
    · split at h
      · split at h
        · have := replay_len l _ _ x (n := n - 1) h (by omega)
          rw [List.length_dropLast] at this
          omega
        · cases h
      · split at h
        · split at h
          · have := replay_len l _ _ x (n := n - 1) h (by omega)
            omega
          · cases h
        · cases h
theorem runP_len : ∀ (l : List UInt8) (p : PS), Fit8 p → l.length ≤ 30000000 → (runP p l).2.1.length ≤ 100000000 := by
  have H : ∀ (l : List UInt8) (p : PS), Fit8 p → (runP p l).2.1.length ≤ 3 * l.length := by
    intro l
    induction l with
    | nil => intro p _; exact Nat.zero_le _
    | cons c b ih =>
      intro p h
      have h3 := (takeP_fit p c h).2.2.1
      by_cases h0 : (takeP p c).2.2 = 0
      · rw [runP_step h0]
        dsimp only
        rw [List.length_append, List.length_cons]
        have := ih _ (takeP_fit8 h h0)
        omega
      · rw [runP_stop h0]
        dsimp only
        rw [List.length_cons]
        omega
  intro l p h hl
  have := H l p h
  omega
theorem balanced (l : List UInt8) : ∃ k, replay [] 0 (runP ps0 l).2.1 = some ((runP ps0 l).1.opn, k) := runP_told l ps0 0 (fun h => by cases h)
end Go.Proofs.YtppgjkjdddanbaaDoor
