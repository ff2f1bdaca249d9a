/- Rows of structs: what can be read, what a call owns. No program in it. -/
import Derived.Test.YtpjaopcgoaannaaGreatDoorHb
namespace Go.Proofs.YtpjaopcgoaannaaGreatDoor
open Go.RowKit
open Hb

section
variable {α : Type} (enc : α → List Value) (k : Nat)

theorem flat_len (hk : ∀ x, (enc x).length = k) : ∀ l : List α, (l.flatMap enc).length = l.length * k
  | [] => by simp
  | x :: l => by
    rw [List.flatMap_cons, List.length_append, hk, flat_len hk l, List.length_cons, Nat.succ_mul]
    omega
theorem flat_at (hk : ∀ x, (enc x).length = k) : ∀ (l : List α) (i : Nat) (h : i < l.length) (j : Nat), j < k → (l.flatMap enc)[i * k + j]? = (enc l[i])[j]?
  | [], i, h, _, _ => absurd h (Nat.not_lt_zero _)
  | x :: l, 0, _, j, hj => by
    rw [List.flatMap_cons, Nat.zero_mul, Nat.zero_add, List.getElem?_append_left (by rw [hk]; exact hj)]
    rfl
  | x :: l, i + 1, h, j, hj => by
    have ih := flat_at hk l i (by simpa using h) j hj
    rw [List.flatMap_cons, List.getElem?_append_right (by rw [hk, Nat.succ_mul]; omega), hk]
    have : (i + 1) * k + j - k = i * k + j := by rw [Nat.succ_mul]; omega
    rw [this, ih]
    rfl
theorem flat_take (hk : ∀ x, (enc x).length = k) (l : List α) (m : Nat) (hm : m ≤ l.length) : (l.flatMap enc).take (m * k) = (l.take m).flatMap enc := by
  have h := List.take_append_drop m l
  have e : l.flatMap enc = (l.take m).flatMap enc ++ (l.drop m).flatMap enc := by rw [← List.flatMap_append, h]
  rw [e]
  apply List.take_left'
  rw [flat_len enc k hk, List.length_take]
  congr 1
  omega

/-- a slice of structs that can be read -/
def SlE (w : World) (v : Value) (l : List α) : Prop := ∃ a c, v = .slice a l.length c ∧ l.length ≤ c ∧ (l = [] ∨ ∃ g off, a = some ⟨g, off, none⟩ ∧ g < w.heap.size ∧ ∀ i (h : i < l.length) j, j < k → w.cell? ⟨g, off + i * k + j, none⟩ = (enc l[i])[j]?)

/-- a row of structs that a call owns -/
def OwE (w : World) (base : Nat) (T : TypeId) (v : Value) (l : List α) : Prop := w.ownsRow base T k v l.length (l.flatMap enc)

variable {enc k}
theorem SlE.below {w w' : World} {v : Value} {l : List α} (h : SlE enc k w v l) (hb : Below w.heap.size w w') : SlE enc k w' v l := by
  obtain ⟨a, c, e, hc, h⟩ := h
  refine ⟨a, c, e, hc, ?_⟩
  rcases h with h | ⟨g, off, ha, hg, hx⟩
  · exact .inl h
  · exact .inr ⟨g, off, ha, Nat.lt_of_lt_of_le hg hb.size, fun i hi j hj => (hb.cell (p := ⟨g, off + i * k + j, none⟩) hg).trans (hx i hi j hj)⟩
theorem SlE.nil (w : World) : SlE (α := α) enc k w (.slice none 0 0) [] := ⟨none, 0, rfl, Nat.le_refl _, .inl rfl⟩

theorem OwE.sl {w : World} {base : Nat} {T : TypeId} {v : Value} {l : List α} (hk : ∀ x, (enc x).length = k) (h : OwE enc k w base T v l) : SlE enc k w v l := by
  rcases h.2 with ⟨e1, e2⟩ | ⟨g, cap, cur, e1, e2, e3, e4, e5, e6, e7⟩
  · obtain rfl : l = [] := List.eq_nil_of_length_eq_zero e2
    exact ⟨none, 0, e1, Nat.le_refl _, .inl rfl⟩
  · refine ⟨_, cap, e1, e4, .inr ⟨g, 0, rfl, by rw [Array.getElem?_eq_some_iff] at e3; exact e3.1, fun i hi j hj => ?_⟩⟩
    have ha : ∀ i, (⟨g, 0, none⟩ : Addr).add i = ⟨g, i, none⟩ := by intro i; unfold Addr.add; split <;> simp_all
    have hf := flat_at enc k hk l i hi j hj
    cases hz : (enc l[i])[j]? with
    | none => rw [List.getElem?_eq_none_iff, hk] at hz; omega
    | some u =>
      rw [hz] at hf
      have := World.ownsRow.cells h (g := g) (by rw [e1]; rfl) (i * k + j) u hf
      rw [ha] at this
      rw [Nat.zero_add]
      exact this
theorem OwE.take {w : World} {base g n c : Nat} {T : TypeId} {l : List α} (hk : ∀ x, (enc x).length = k) (h : OwE enc k w base T (.slice (some ⟨g, 0, none⟩) n c) l) (m : Nat) (hm : m ≤ l.length) : OwE enc k w base T (.slice (some ⟨g, 0, none⟩) m c) (l.take m) := by
  have hlen : (l.take m).length = m := by rw [List.length_take]; omega
  have hft := flat_take enc k hk l m hm
  rcases h.2 with ⟨h0, _⟩ | ⟨g', cap', cur, e1, e2, e3, e4, e5, e6, e7⟩
  · cases h0
  · cases e1
    have hmk : m * k ≤ l.length * k := Nat.mul_le_mul_right k hm
    unfold OwE
    rw [hlen, ← hft]
    refine ⟨?_, .inr ⟨g, c, cur, rfl, e2, e3, by omega, e5, e6, ?_⟩⟩
    · rw [List.length_take, flat_len enc k hk]
      omega
    · rw [← e7, List.take_take]
      congr 1
      omega
end
end Go.Proofs.YtpjaopcgoaannaaGreatDoor
