/- The quick way's answers are the program's: operations that only compute. No program in it. -/
import Derived.Test.YtkgmpkoamicheaaGreatDoorMg
import Derived.Laws.Strings
namespace Go.Proofs.YtkgmpkoamicheaaGreatDoor.M

theorem listEq_iff : ∀ (x y : List UInt8), listEq x y = (x == y)
  | [], [] => rfl
  | [], _ :: _ => rfl
  | _ :: _, [] => rfl
  | a :: x, b :: y => by
    have e : Nat.beq a.toNat b.toNat = (a == b) := by
      rw [Bool.eq_iff_iff, Tr.beq_iff, beq_iff_eq]
      exact UInt8.toNat_inj
    simp only [listEq, listEq_iff x y, e]
    rfl
theorem listLt_iff : ∀ (x y : List UInt8), listLt x y = Op.bytesLess x y
  | [], [] => rfl
  | [], _ :: _ => rfl
  | _ :: _, [] => rfl
  | a :: x, b :: y => by
    have e : Nat.beq a.toNat b.toNat = (a == b) := by
      rw [Bool.eq_iff_iff, Tr.beq_iff, beq_iff_eq]
      exact UInt8.toNat_inj
    have e2 : Nat.blt a.toNat b.toNat = decide (a < b) := by
      rw [Bool.eq_iff_iff, decide_eq_true_eq, UInt8.lt_iff_toNat_lt]
      simp [Nat.blt, Nat.ble_eq, Nat.lt_iff_add_one_le]
    simp only [listLt, listLt_iff x y, e, e2, Op.bytesLess]
theorem str_beq (x y : ByteArray) : (x == y) = listEq x.data.toList y.data.toList := by
  have h : (x == y) = (x.data == y.data) := rfl
  rw [h, listEq_iff, Bool.eq_iff_iff, beq_iff_eq, beq_iff_eq, Array.toList_inj]

section
variable {P : Program} {T : Tab} {base : Nat} {m : Mu} {H : AHeap} {w : World}

theorem aint_ok {op : BinOp} {k : IntKind} {x y : Int} {v : Value} (hs : op ≠ .shl ∧ op ≠ .shr) (h : aint op k x y = some v) (t : TypeId) : (binOp op t (.int k x) (.int k y)).run P w = .ok v w := by
  cases op <;> simp [aint] at h <;> simp_all [binOp, Op.intArith, Op.intDiv, Op.intBits, Op.intCmp]
theorem ashift_ok {op : BinOp} {k k' : IntKind} {x y : Int} {v : Value} (hs : op = .shl ∨ op = .shr) (h : ashift op k x y = some v) (t : TypeId) : (binOp op t (.int k x) (.int k' y)).run P w = .ok v w := by
  unfold ashift at h
  split at h
  · cases h
  · rename_i hy
    rcases hs with rfl | rfl <;> simp at h <;> simp [binOp, Op.shift, hy, h]
theorem astr_ok {op : BinOp} {x y : ByteArray} {v : Value} (h : astr op x y = some v) (t : TypeId) : (binOp op t (.string x) (.string y)).run P w = .ok v w := by
  have e : (x.toList == y.toList) = listEq x.data.toList y.data.toList := by rw [listEq_iff, ByteArray.toList_eq, ByteArray.toList_eq]
  have e2 : Op.bytesLess x.toList y.toList = listLt x.data.toList y.data.toList := by rw [listLt_iff, ByteArray.toList_eq, ByteArray.toList_eq]
  cases op <;> simp only [astr] at h <;> try (cases h)
  case add =>
    split at h
    · rename_i hz
      obtain rfl := Option.some.inj h
      have hz' : ¬ ((x.size + y.size : Nat) : Int) > IntKind.i64.max := by simp [IntKind.max, IntKind.signed, IntKind.bits]; omega
      have ha : x ++ y = ⟨⟨x.data.toList ++ y.data.toList⟩⟩ := by
        apply ByteArray.ext
        rw [ByteArray.data_append]
        apply Array.ext'
        simp
      simp only [binOp, Op.stringOp, hz', if_false, Sem.run_pure, ha]
    · cases h
  all_goals simp only [binOp, Op.stringOp, e, e2, Sem.run_pure]
theorem aun_ok {op : UnOp} {x v : Value} (h : aun op x = some v) : ∀ {x'}, VR m x x' → ∃ v', (Op.unary op x').run P w = .ok v' w ∧ VR m v v' := by
  intro x' hx
  unfold aun at h
  split at h
  · cases hx; obtain rfl := Option.some.inj h; exact ⟨_, by simp [Op.unary, Op.intArith], .int _ _⟩
  · cases hx; obtain rfl := Option.some.inj h; exact ⟨_, by simp [Op.unary, Op.intBits], .int _ _⟩
  · cases hx; obtain rfl := Option.some.inj h; exact ⟨_, by simp [Op.unary], .bool _⟩
  · cases h
end
end Go.Proofs.YtkgmpkoamicheaaGreatDoor.M
