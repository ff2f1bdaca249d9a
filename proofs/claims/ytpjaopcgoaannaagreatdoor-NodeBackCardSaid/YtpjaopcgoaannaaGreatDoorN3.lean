/- Rows that rise: order of texts, put in, dropped. No program in it. -/
import Derived.Test.YtpjaopcgoaannaaGreatDoorN2
namespace Go.Proofs.YtpjaopcgoaannaaGreatDoor
open Go.Op (bytesLess)

theorem eqS_iff {a b : ByteArray} : eqS a b = true ↔ a = b := by
  unfold eqS
  rw [beq_iff_eq]
  constructor
  · intro h
    rw [ByteArray.toList_eq, ByteArray.toList_eq] at h
    cases a; cases b
    simp only [ByteArray.mk.injEq]
    exact Array.ext' h
  · rintro rfl; rfl
theorem eqS_refl (a : ByteArray) : eqS a a = true := eqS_iff.2 rfl
theorem eqS_comm (a b : ByteArray) : eqS a b = eqS b a := by
  rw [Bool.eq_iff_iff, eqS_iff, eqS_iff]
  exact ⟨Eq.symm, Eq.symm⟩

theorem bl_irrefl : ∀ a : List UInt8, bytesLess a a = false
  | [] => rfl
  | a :: x => by simp [bytesLess, bl_irrefl x]
theorem bl_trans : ∀ a b c : List UInt8, bytesLess a b = true → bytesLess b c = true → bytesLess a c = true
  | a, [], _, h, _ => by cases a <;> simp [bytesLess] at h
  | _, _ :: _, [], _, h => by simp [bytesLess] at h
  | [], _ :: _, _ :: _, _, _ => rfl
  | a :: x, b :: y, c :: z, h, k => by
    simp only [bytesLess, Bool.or_eq_true, Bool.and_eq_true, decide_eq_true_eq, beq_iff_eq] at *
    rcases h with h | ⟨rfl, h⟩
    · rcases k with k | ⟨rfl, k⟩
      · exact .inl (UInt8.lt_trans h k)
      · exact .inl h
    · rcases k with k | ⟨rfl, k⟩
      · exact .inl k
      · exact .inr ⟨rfl, bl_trans x y z h k⟩
theorem bl_total : ∀ a b : List UInt8, bytesLess a b = false → a ≠ b → bytesLess b a = true
  | [], [], _, h => absurd rfl h
  | [], _ :: _, h, _ => by simp [bytesLess] at h
  | _ :: _, [], _, _ => rfl
  | a :: x, b :: y, h, k => by
    simp only [bytesLess, Bool.or_eq_true, Bool.and_eq_true, decide_eq_true_eq, beq_iff_eq, Bool.or_eq_false_iff, decide_eq_false_iff_not, Bool.and_eq_false_iff, beq_eq_false_iff_ne] at *
    obtain ⟨h1, h2⟩ := h
    by_cases e : a = b
    · subst e
      refine .inr ⟨rfl, bl_total x y ?_ (fun e => k (by rw [e]))⟩
      rcases h2 with h2 | h2
      · exact absurd rfl h2
      · exact h2
    · left
      rw [UInt8.lt_iff_toNat_lt] at *
      have : a.toNat ≠ b.toNat := fun h => e (UInt8.toNat.inj h)
      omega
theorem ltS_irrefl (a : ByteArray) : ltS a a = false := bl_irrefl _
theorem ltS_trans {a b c : ByteArray} (h : ltS a b = true) (k : ltS b c = true) : ltS a c = true := bl_trans _ _ _ h k
theorem ltS_total {a b : ByteArray} (h : ltS a b = false) (k : eqS a b = false) : ltS b a = true := bl_total _ _ h (fun e => by unfold eqS at k; rw [e] at k; simp at k)
theorem ltS_asymm {a b : ByteArray} (h : ltS a b = true) : ltS b a = false := by
  cases k : ltS b a with
  | false => rfl
  | true => have := ltS_trans h k; rw [ltS_irrefl] at this; exact this.symm
theorem ltS_ne {a b : ByteArray} (h : ltS a b = true) : eqS a b = false := by
  cases k : eqS a b with
  | false => rfl
  | true => rw [eqS_iff] at k; subst k; rw [ltS_irrefl] at h; cases h

section
variable {α : Type} {of : α → ByteArray} {p : ByteArray → Bool}
abbrev Ris (of : α → ByteArray) (l : List α) : Prop := l.Pairwise fun x y => ltS (of x) (of y) = true

theorem risingR_iff : ∀ (l : List α) (b : Option ByteArray), risingR of p b l = true ↔ (∀ x ∈ l, p (of x) = true) ∧ Ris of l ∧ (∀ y, b = some y → ∀ x ∈ l, ltS y (of x) = true)
  | [], b => by simp [risingR]
  | x :: r, b => by
    show (p (of x) && (match b with | none => true | some y => ltS y (of x)) && risingR of p (some (of x)) r) = true ↔ _
    rw [Bool.and_eq_true, Bool.and_eq_true, risingR_iff r (some (of x)), show Ris of (x :: r) ↔ _ from List.pairwise_cons]
    constructor
    · rintro ⟨⟨h1, h2⟩, h3, h4, h5⟩
      refine ⟨?_, ⟨fun y hy => h5 _ rfl y hy, h4⟩, ?_⟩
      · intro y hy
        rcases List.mem_cons.1 hy with rfl | hy
        · exact h1
        · exact h3 y hy
      · rintro y rfl z hz
        rcases List.mem_cons.1 hz with rfl | hz
        · exact h2
        · exact ltS_trans h2 (h5 _ rfl z hz)
    · rintro ⟨h1, ⟨h2, h3⟩, h4⟩
      refine ⟨⟨h1 x (.head _), ?_⟩, fun y hy => h1 y (.tail _ hy), h3, ?_⟩
      · cases b with
        | none => rfl
        | some y => exact h4 y rfl x (.head _)
      · rintro y e z hz
        cases e
        exact h2 z hz
theorem risingL_iff {l : List α} : risingL of p l = true ↔ (∀ x ∈ l, p (of x) = true) ∧ Ris of l ∧ l.length ≤ 16 := by
  unfold risingL
  rw [Bool.and_eq_true, risingR_iff, decide_eq_true_eq]
  constructor
  · rintro ⟨⟨a, b, _⟩, c⟩; exact ⟨a, b, c⟩
  · rintro ⟨a, b, c⟩; exact ⟨⟨a, b, fun _ h => by cases h⟩, c⟩

theorem setL_mem (x : α) : ∀ (l : List α) (y : α), y ∈ setL of x l → y = x ∨ y ∈ l
  | [], y, h => by simp [setL] at h; exact .inl h
  | z :: r, y, h => by
    unfold setL at h
    split at h
    · rcases List.mem_cons.1 h with rfl | h
      · exact .inr (.head _)
      · rcases setL_mem x r y h with h | h
        · exact .inl h
        · exact .inr (.tail _ h)
    · split at h
      · rcases List.mem_cons.1 h with rfl | h
        · exact .inl rfl
        · exact .inr (.tail _ h)
      · rcases List.mem_cons.1 h with rfl | h
        · exact .inl rfl
        · exact .inr h
theorem setL_ris (x : α) : ∀ (l : List α), Ris of l → Ris of (setL of x l)
  | [], _ => by simp [setL]
  | z :: r, h => by
    obtain ⟨h1, h2⟩ := List.pairwise_cons.1 h
    unfold setL
    split
    · rename_i hz
      refine List.pairwise_cons.2 ⟨fun y hy => ?_, setL_ris x r h2⟩
      rcases setL_mem x r y hy with rfl | hy
      · exact hz
      · exact h1 y hy
    · rename_i hz
      split
      · rename_i he
        rw [eqS_iff] at he
        exact List.pairwise_cons.2 ⟨fun y hy => by rw [← he]; exact h1 y hy, h2⟩
      · rename_i he
        have hx : ltS (of x) (of z) = true := ltS_total (by simpa using hz) (by simpa using he)
        refine List.pairwise_cons.2 ⟨fun y hy => ?_, h⟩
        rcases List.mem_cons.1 hy with rfl | hy
        · exact hx
        · exact ltS_trans hx (h1 y hy)
theorem setL_length (x : α) : ∀ (l : List α), (setL of x l).length ≤ l.length + 1
  | [] => by simp [setL]
  | z :: r => by
    have := setL_length x r
    unfold setL
    split
    · simp; omega
    · split <;> simp
theorem setL_length_is (x : α) : ∀ (l : List α), Ris of l → (∃ y ∈ l, eqS (of y) (of x) = true) → (setL of x l).length = l.length
  | [], _, h => by obtain ⟨y, hy, _⟩ := h; cases hy
  | z :: r, h, ⟨y, hy, he⟩ => by
    obtain ⟨h1, h2⟩ := List.pairwise_cons.1 h
    unfold setL
    rcases List.mem_cons.1 hy with rfl | hy
    · have hn : ltS (of y) (of x) = false := by rw [eqS_iff.1 he]; exact ltS_irrefl _
      rw [if_neg (by rw [hn]; simp), if_pos he]
      simp
    · have hz : ltS (of z) (of x) = true := by rw [← eqS_iff.1 he]; exact h1 y hy
      rw [if_pos hz, List.length_cons, setL_length_is x r h2 ⟨y, hy, he⟩]
      rfl
theorem setL_has (x : α) : ∀ (l : List α), x ∈ setL of x l
  | [] => by simp [setL]
  | z :: r => by
    unfold setL
    split
    · exact .tail _ (setL_has x r)
    · split <;> exact .head _

/-- what stands under an address -/
theorem find_setL (x : α) (who : ByteArray) (he : eqS (of x) who = true) : ∀ (l : List α), (setL of x l).find? (fun y => eqS (of y) who) = some x
  | [] => by simp [setL, he]
  | z :: r => by
    unfold setL
    split
    · rename_i hz
      rw [eqS_iff] at he
      have : eqS (of z) who = false := by rw [← he]; exact ltS_ne hz
      rw [List.find?_cons, this]
      exact find_setL x who (eqS_iff.2 he) r
    · split <;> simp [he]
theorem find_dropL (who : ByteArray) (l : List α) : (dropL of who l).find? (fun y => eqS (of y) who) = none := by
  unfold dropL
  rw [List.find?_eq_none]
  intro x hx
  simpa using (List.mem_filter.1 hx).2

/-- where the search ends is where it's put in -/
theorem setL_at (x : α) : ∀ (l : List α) (i : Nat) (_ : i ≤ l.length) (_ : ∀ k (h : k < l.length), k < i → ltS (of l[k]) (of x) = true) (_ : ∀ k (h : k < l.length), i ≤ k → ltS (of l[k]) (of x) = false),
    setL of x l = if h : i < l.length then (if eqS (of l[i]) (of x) then l.set i x else l.take i ++ x :: l.drop i) else l.take i ++ x :: l.drop i
  | [], i, hi, _, _ => by
    obtain rfl : i = 0 := by simpa using hi
    simp [setL]
  | z :: r, 0, _, _, h2 => by
    have hz := h2 0 (by simp) (Nat.le_refl _)
    simp only [List.getElem_cons_zero] at hz
    unfold setL
    rw [if_neg (by rw [hz]; simp)]
    simp
  | z :: r, i + 1, hi, h1, h2 => by
    have hz := h1 0 (by simp) (by omega)
    simp only [List.getElem_cons_zero] at hz
    have ih := setL_at x r i (by simpa using hi) (fun k h hk => h1 (k + 1) (by simpa using h) (by omega)) (fun k h hk => h2 (k + 1) (by simpa using h) (by omega))
    unfold setL
    rw [if_pos hz, ih]
    by_cases hlt : i < r.length
    · rw [dif_pos hlt, dif_pos (by simpa using hlt)]
      simp only [List.getElem_cons_succ]
      split <;> simp
    · rw [dif_neg hlt, dif_neg (by simpa using hlt)]
      simp
theorem Ris.mono {l : List α} (h : Ris of l) (who : ByteArray) (a b : Nat) (ha : a ≤ b) (hb : b < l.length) (hk : ltS (of l[b]) who = true) : ltS (of (l[a]'(Nat.lt_of_le_of_lt ha hb))) who = true := by
  rcases Nat.eq_or_lt_of_le ha with rfl | ha
  · exact hk
  · exact ltS_trans (List.pairwise_iff_getElem.1 h a b (by omega) hb ha) hk
theorem dropL_ris {l : List α} (h : Ris of l) (who : ByteArray) : Ris of (dropL of who l) := List.Pairwise.filter _ h
theorem Ris.find {l : List α} (h : Ris of l) {x : α} (hx : x ∈ l) : l.find? (fun y => eqS (of y) (of x)) = some x := by
  induction l with
  | nil => cases hx
  | cons z r ih =>
    obtain ⟨h1, h2⟩ := List.pairwise_cons.1 h
    rcases List.mem_cons.1 hx with rfl | hx
    · simp [eqS_refl]
    · rw [List.find?_cons, ltS_ne (h1 x hx)]
      exact ih h2 hx
end
end Go.Proofs.YtpjaopcgoaannaaGreatDoor
