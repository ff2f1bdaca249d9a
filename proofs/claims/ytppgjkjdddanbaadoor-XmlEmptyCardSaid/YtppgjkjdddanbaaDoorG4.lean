/- what begin does, as plain functions: how the texts become shorter. No program in it. -/
import Derived.Test.YtppgjkjdddanbaaDoorG3
namespace Go.Proofs.YtppgjkjdddanbaaDoor
open Go.RowKit
open Hb

theorem extract_le (s : ByteArray) (i j : Nat) : (s.extract i j).size ≤ s.size := by rw [ByteArray.size_extract]; omega

theorem attrV_size {x r3 : ByteArray} {q : UInt8} {y : (ByteArray × ByteArray) × ByteArray} (h : attrV x r3 q = some y) : y.2.size ≤ r3.size := by
  unfold attrV at h
  dsimp only at h
  have hl := cutAt_len q (r3.extract 1 r3.size).data.toList
  have h1 := extract_le r3 1 r3.size
  rw [Lib.size_eq] at h1
  split at h
  · split at h
    · cases h
    · obtain rfl := Option.some.inj h
      show (ByteArray.mk (cutAt q (r3.extract 1 r3.size).data.toList).2.1.toArray).size ≤ _
      rw [Lib.size_eq]
      show (cutAt q (r3.extract 1 r3.size).data.toList).2.1.length ≤ _
      omega
  · cases h

theorem attrT_size {x r0 : ByteArray} {y : (ByteArray × ByteArray) × ByteArray} (h : attrT x r0 = some y) : y.2.size ≤ r0.size := by
  unfold attrT at h
  dsimp only at h
  have h1 : (cutLead ((cutLead r0).extract 1 (cutLead r0).size)).size ≤ r0.size :=
    Nat.le_trans (extract_le _ _ _) (Nat.le_trans (extract_le _ _ _) (extract_le _ _ _))
  split at h
  · split at h
    · exact Nat.le_trans (attrV_size h) h1
    · split at h
      · exact Nat.le_trans (attrV_size h) h1
      · cases h
  · cases h

theorem attrP_size {s : ByteArray} {y : (ByteArray × ByteArray) × ByteArray} (h : attrP s = some y) : y.2.size ≤ s.size := by
  unfold attrP at h
  split at h
  · exact Nat.le_trans (attrT_size h) (extract_le _ _ _)
  · cases h

theorem attrP_less {r : ByteArray} {y : (ByteArray × ByteArray) × ByteArray} (h0 : lead r.data.toList ≠ 0) (h1 : lead r.data.toList ≠ r.size) (h : attrP (r.extract (lead r.data.toList) r.size) = some y) : y.2.size < r.size := by
  have h2 := attrP_size h
  have h3 : lead r.data.toList ≤ r.size := by rw [Lib.size_eq]; exact lead_le _
  rw [ByteArray.size_extract] at h2
  omega

theorem attrsP_fuel : ∀ (n m : Nat) (r : ByteArray), r.size < n → r.size < m → attrsP n r = attrsP m r
  | 0, _, _, h, _ => absurd h (Nat.not_lt_zero _)
  | _ + 1, 0, _, _, h => absurd h (Nat.not_lt_zero _)
  | n + 1, m + 1, r, h1, h2 => by
    unfold attrsP
    split
    · rfl
    · split
      · rfl
      · rename_i h3 h4
        cases ha : attrP (r.extract (lead r.data.toList) r.size) with
        | none => rfl
        | some y =>
          have hl := attrP_less h4 h3 ha
          obtain ⟨a, r'⟩ := y
          dsimp only at hl ⊢
          rw [attrsP_fuel n m r' (by omega) (by omega)]

theorem attrsR_end {r : ByteArray} (h : lead r.data.toList = r.size) : attrsR r = some [] := by
  unfold attrsR attrsP
  rw [if_pos h]
theorem attrsR_gap {r : ByteArray} (h : lead r.data.toList ≠ r.size) (h0 : lead r.data.toList = 0) : attrsR r = none := by
  unfold attrsR attrsP
  rw [if_neg h, if_pos h0]
theorem attrsR_bad {r : ByteArray} (h : lead r.data.toList ≠ r.size) (h0 : lead r.data.toList ≠ 0) (ha : attrP (r.extract (lead r.data.toList) r.size) = none) : attrsR r = none := by
  unfold attrsR attrsP
  rw [if_neg h, if_neg h0, ha]
theorem attrsR_step {r r' : ByteArray} {a : ByteArray × ByteArray} (h : lead r.data.toList ≠ r.size) (h0 : lead r.data.toList ≠ 0) (ha : attrP (r.extract (lead r.data.toList) r.size) = some (a, r')) : attrsR r = (attrsR r').map (a :: ·) := by
  have hl := attrP_less h0 h ha
  unfold attrsR
  rw [attrsP, if_neg h, if_neg h0, ha]
  dsimp only at hl ⊢
  rw [attrsP_fuel r.size (r'.size + 1) r' hl (by omega)]
  cases attrsP (r'.size + 1) r' <;> rfl

/-- the attributes: l has been read, r is still to be read. -/
def AtAttr (r0 : ByteArray) (l : List (ByteArray × ByteArray)) (r : ByteArray) : Prop := attrsR r0 = (attrsR r).map (l ++ ·)
theorem AtAttr.start (r : ByteArray) : AtAttr r [] r := by unfold AtAttr; cases attrsR r <;> simp
theorem AtAttr.step {r0 r r' : ByteArray} {l : List (ByteArray × ByteArray)} {a : ByteArray × ByteArray} (hA : AtAttr r0 l r) (h : lead r.data.toList ≠ r.size) (h0 : lead r.data.toList ≠ 0) (ha : attrP (r.extract (lead r.data.toList) r.size) = some (a, r')) : AtAttr r0 (l ++ [a]) r' := by
  unfold AtAttr at *
  rw [hA, attrsR_step h h0 ha]
  cases attrsR r' <;> simp
theorem AtAttr.none {r0 r : ByteArray} {l : List (ByteArray × ByteArray)} (hA : AtAttr r0 l r) (h : attrsR r = none) : attrsR r0 = none := by
  unfold AtAttr at hA
  rw [hA, h]; rfl
theorem AtAttr.last {r0 r : ByteArray} {l : List (ByteArray × ByteArray)} (hA : AtAttr r0 l r) (h : lead r.data.toList = r.size) : attrsR r0 = some l := by
  unfold AtAttr at hA
  rw [hA, attrsR_end h]
  simp

theorem twice_step (l : List (ByteArray × ByteArray)) (k : Nat) (h : k < l.length) : twice (l.take k) (l.drop k) = (hasName (l.take k) l[k].1 || twice (l.take (k + 1)) (l.drop (k + 1))) := by
  rw [List.drop_eq_getElem_cons h, twice, ← List.take_append_getElem h]
  rfl
theorem twice_end (l : List (ByteArray × ByteArray)) : twice l [] = false := rfl

theorem beginO_root {p : PS} {x : ByteArray} {em : Bool} {l : List (ByteArray × ByteArray)} (h : p.opn = [] ∧ p.rooted = true) : beginO p x em (some l) = .error 6 := by
  show beginT p x l em = _
  unfold beginT
  rw [if_pos h]
theorem beginO_many {p : PS} {x : ByteArray} {em : Bool} {l : List (ByteArray × ByteArray)} (h : ¬ (p.opn = [] ∧ p.rooted = true)) (h2 : 8 < l.length) : beginO p x em (some l) = .error 5 := by
  show beginT p x l em = _
  unfold beginT
  rw [if_neg h, if_pos h2]
theorem beginO_twice {p : PS} {x : ByteArray} {em : Bool} {l : List (ByteArray × ByteArray)} (h : ¬ (p.opn = [] ∧ p.rooted = true)) (h2 : ¬ 8 < l.length) (h3 : twice [] l = true) : beginO p x em (some l) = .error 6 := by
  show beginT p x l em = _
  unfold beginT
  rw [if_neg h, if_neg h2, if_pos h3]
theorem beginO_deep {p : PS} {x : ByteArray} {em : Bool} {l : List (ByteArray × ByteArray)} (h : ¬ (p.opn = [] ∧ p.rooted = true)) (h2 : ¬ 8 < l.length) (h3 : twice [] l = false) (h4 : 8 ≤ p.opn.length) : beginO p x em (some l) = .error 5 := by
  show beginT p x l em = _
  unfold beginT
  rw [if_neg h, if_neg h2, if_neg (by rw [h3]; decide), if_pos h4]
theorem beginO_one {p : PS} {x : ByteArray} {l : List (ByteArray × ByteArray)} (h : ¬ (p.opn = [] ∧ p.rooted = true)) (h2 : ¬ 8 < l.length) (h3 : twice [] l = false) (h4 : ¬ 8 ≤ p.opn.length) : beginO p x true (some l) = .ok ({ p with rooted := true }, [⟨1, x, l, ⟨#[]⟩⟩, ⟨2, x, [], ⟨#[]⟩⟩]) := by
  show beginT p x l true = _
  unfold beginT
  rw [if_neg h, if_neg h2, if_neg (by rw [h3]; decide), if_neg h4, if_pos rfl]
theorem beginO_two {p : PS} {x : ByteArray} {l : List (ByteArray × ByteArray)} (h : ¬ (p.opn = [] ∧ p.rooted = true)) (h2 : ¬ 8 < l.length) (h3 : twice [] l = false) (h4 : ¬ 8 ≤ p.opn.length) : beginO p x false (some l) = .ok ({ p with rooted := true, opn := p.opn ++ [x] }, [⟨1, x, l, ⟨#[]⟩⟩]) := by
  show beginT p x l false = _
  unfold beginT
  rw [if_neg h, if_neg h2, if_neg (by rw [h3]; decide), if_neg h4, if_neg (by decide)]
end Go.Proofs.YtppgjkjdddanbaaDoor
