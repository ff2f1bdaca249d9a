/- A row of structs in its block: written in place, copied into, cleared. No program in it. -/
import Derived.Test.YtpjaopcgoaannaaGreatDoorN5
import Derived.Laws.CopyRow
import Derived.Lib.AppendZerosOnto
import Derived.Lib.Overlaps
namespace Go.Proofs.YtpjaopcgoaannaaGreatDoor
open Go.RowKit
open Hb

theorem gTrans {w w1 w2 : World} {r : Option Nat} (h : w.grownBy w1 r) (k : w1.grownBy w2 r) : w.grownBy w2 r :=
  ⟨k.os.trans h.os, k.tape.trans h.tape, k.output.trans h.output, Nat.le_trans h.size k.size, fun i hi hr => (k.block i (Nat.lt_of_lt_of_le hi h.size) hr).trans (h.block i hi hr)⟩
theorem gBelow {w w1 : World} (h : Below w.heap.size w w1) (r : Option Nat) : w.grownBy w1 r := ⟨h.os, h.tape, h.output, h.size, fun i hi _ => h.block i hi⟩
theorem gRefl (w : World) (r : Option Nat) : w.grownBy w r := ⟨rfl, rfl, rfl, Nat.le_refl _, fun _ _ _ => rfl⟩
theorem gNone {w w1 : World} (h : w.grownBy w1 none) : Below w.heap.size w w1 := ⟨h.os, h.tape, h.output, h.size, fun i hi => h.block i hi (by simp)⟩
theorem gNew {w w1 : World} {g : Nat} (h : w.grownBy w1 (some g)) (hg : w.heap.size ≤ g) : Below w.heap.size w w1 := ⟨h.os, h.tape, h.output, h.size, fun i hi => h.block i hi (by simp; omega)⟩
theorem gBase {w w1 : World} {base : Nat} {v : Value} {size n : Nat} {T : TypeId} {xs : List Value} (h : w.grownBy w1 v.ownBlock) (ho : w.ownsRow base T size v n xs) (hb : base ≤ w.heap.size) : Below base w w1 :=
  ⟨h.os, h.tape, h.output, h.size, fun i hi => h.block i (by omega) (fun e => by have := (ho.lt i e.symm).1; omega)⟩

section
variable {α : Type} (enc : α → List Value) (k : Nat)
theorem flat_drop (hk : ∀ x, (enc x).length = k) (l : List α) (m : Nat) (hm : m ≤ l.length) : (l.flatMap enc).drop (m * k) = (l.drop m).flatMap enc := by
  have h := List.take_append_drop m l
  have e : l.flatMap enc = (l.take m).flatMap enc ++ (l.drop m).flatMap enc := by rw [← List.flatMap_append, h]
  rw [e]
  apply List.drop_left'
  rw [flat_len enc k hk, List.length_take]
  congr 1
  omega
/-- one element of a row written anew, cell by cell -/
def setsL : List Value → Nat → List Value → List Value
  | xs, _, [] => xs
  | xs, o, v :: vs => setsL (xs.set o v) (o + 1) vs
theorem setsL_eq : ∀ (vs xs : List Value) (o : Nat), o + vs.length ≤ xs.length → setsL xs o vs = xs.take o ++ vs ++ xs.drop (o + vs.length)
  | [], xs, o, _ => by simp [setsL]
  | v :: vs, xs, o, h => by
    simp only [List.length_cons] at h
    have hlt : o < xs.length := by omega
    show setsL (xs.set o v) (o + 1) vs = _
    rw [setsL_eq vs _ _ (by rw [List.length_set]; omega)]
    have e1 : (xs.set o v).take (o + 1) = xs.take o ++ [v] := by
      rw [List.take_succ_eq_append_getElem (by rw [List.length_set]; exact hlt), List.take_set, List.getElem_set_self]
      rw [List.set_eq_of_length_le (by rw [List.length_take]; omega)]
    have e2 : (xs.set o v).drop (o + 1 + vs.length) = xs.drop (o + (v :: vs).length) := by
      rw [List.drop_set, if_pos (by omega), List.length_cons]
      congr 1
      omega
    rw [e1, e2]
    simp
theorem flat_set (hk : ∀ x, (enc x).length = k) (l : List α) (i : Nat) (hi : i < l.length) (x : α) : setsL (l.flatMap enc) (i * k) (enc x) = (l.set i x).flatMap enc := by
  have hle : i * k + k ≤ l.length * k := by
    have := Nat.mul_le_mul_right k (show i + 1 ≤ l.length from hi)
    rw [Nat.add_mul, Nat.one_mul] at this
    exact this
  rw [setsL_eq _ _ _ (by rw [hk, flat_len enc k hk]; exact hle), hk, flat_take enc k hk l i (by omega), show i * k + k = (i + 1) * k by rw [Nat.add_mul, Nat.one_mul], flat_drop enc k hk l (i + 1) (by omega)]
  rw [List.set_eq_take_append_cons_drop, if_pos hi]
  simp
end

/-- a block whose first cells are those -/
def RowI (w : World) (g : Nat) (T : TypeId) (size : Nat) (xs : List Value) : Prop := ∃ ys : List Value, w.heap[g]? = some (.cells (xs ++ ys).toArray T (0, 0)) ∧ (xs ++ ys).length = size

theorem RowI.at {w : World} {g size : Nat} {T : TypeId} {xs : List Value} (h : RowI w g T size xs) (j : Nat) (u : Value) (hj : xs[j]? = some u) : w.cell? ⟨g, j, none⟩ = some u := by
  obtain ⟨ys, h1, h2⟩ := h
  rw [cell_of_row w g j _ T (0, 0) h1]
  have : j < xs.length := (List.getElem?_eq_some_iff.1 hj).1
  simp only [List.getElem?_toArray]
  rw [List.getElem?_append_left this, hj]
theorem RowI.frozen {w : World} {g size : Nat} {T : TypeId} {xs : List Value} (h : RowI w g T size xs) (j : Nat) : w.frozen? ⟨g, j, none⟩ = false := by
  obtain ⟨ys, h1, _⟩ := h
  simp [World.frozen?, h1]
theorem RowI.lt {w : World} {g size : Nat} {T : TypeId} {xs : List Value} (h : RowI w g T size xs) : g < w.heap.size := by
  obtain ⟨ys, h1, _⟩ := h
  exact (Array.getElem?_eq_some_iff.1 h1).1
theorem RowI.kept {w w' : World} {g size : Nat} {T : TypeId} {xs : List Value} (h : RowI w g T size xs) (hb : w'.heap[g]? = w.heap[g]?) : RowI w' g T size xs := by
  obtain ⟨ys, h1, h2⟩ := h
  exact ⟨ys, hb.trans h1, h2⟩
theorem RowI.below {w w' : World} {g size : Nat} {T : TypeId} {xs : List Value} (h : RowI w g T size xs) (hb : Below w.heap.size w w') : RowI w' g T size xs := h.kept (hb.block g h.lt)
theorem RowI.shape {w : World} {g size : Nat} {T : TypeId} {xs : List Value} (h : RowI w g T size xs) : w.shape? g = some (T, size) := by
  obtain ⟨ys, h1, h2⟩ := h
  simp only [List.length_append] at h2
  simp [World.shape?, h1, h2]
theorem RowI.take {w : World} {g size : Nat} {T : TypeId} {xs : List Value} (h : RowI w g T size xs) (m : Nat) : RowI w g T size (xs.take m) := by
  obtain ⟨ys, h1, h2⟩ := h
  refine ⟨xs.drop m ++ ys, ?_, ?_⟩
  · rw [← List.append_assoc, List.take_append_drop]; exact h1
  · rw [← List.append_assoc, List.take_append_drop]; exact h2
theorem RowI.set {w : World} {g size : Nat} {T : TypeId} {xs : List Value} (h : RowI w g T size xs) (j : Nat) (hj : j < xs.length) (v : Value) : RowI (w.setCell ⟨g, j, none⟩ v) g T size (xs.set j v) := by
  obtain ⟨ys, h1, h2⟩ := h
  refine ⟨ys, ?_, by simpa using h2⟩
  rw [setCell_eq_setRow w g j _ T (0, 0) v h1, setRow_heap w g _ _ T _ h1]
  congr 2
  rw [List.setIfInBounds_toArray, List.set_append_left _ _ hj]
theorem grown_set {w : World} {g j : Nat} (v : Value) : w.grownBy (w.setCell ⟨g, j, none⟩ v) (some g) :=
  ⟨rfl, rfl, rfl, by simp, fun i _ hi => Below.heap_setCell w _ v i (fun e => hi (by rw [e]))⟩
theorem RowI.own {w : World} {g base n c k : Nat} {T : TypeId} {xs : List Value} (h : RowI w g T (c * k) xs) (hb : base ≤ g) (hn : xs.length = n * k) (hc : n ≤ c) (hm : c ≤ maxLen) : w.ownsRow base T k (.slice (some ⟨g, 0, none⟩) n c) n xs := by
  obtain ⟨ys, h1, h2⟩ := h
  exact ⟨hn, .inr ⟨g, c, _, rfl, hb, h1, hc, hm, by simpa using h2, by rw [← hn]; simp⟩⟩
theorem RowI.of {w : World} {g base n c k : Nat} {T : TypeId} {xs : List Value} (h : w.ownsRow base T k (.slice (some ⟨g, 0, none⟩) n c) n xs) : RowI w g T (c * k) xs ∧ base ≤ g ∧ n ≤ c ∧ c ≤ maxLen := by
  rcases h.2 with ⟨h0, _⟩ | ⟨g', cap', cur, e1, e2, e3, e4, e5, e6, e7⟩
  · cases h0
  · cases e1
    refine ⟨⟨cur.toList.drop (n * k), ?_, ?_⟩, e2, e4, e5⟩
    · rw [← e7, List.take_append_drop]; simpa using e3
    · rw [← e7, List.take_append_drop]; simpa using e6
theorem RowI.new (w : World) (T : TypeId) (xs ys : List Value) : RowI (w.alloc (.cells (xs ++ ys).toArray T)) w.heap.size T (xs ++ ys).length xs := ⟨ys, (MapKept.heap_alloc w _).1, rfl⟩

theorem RowI.put {w : World} {g size : Nat} {T : TypeId} {xs : List Value} (P : Program) (h : RowI w g T size xs) (o : Nat) (vs : List Value) (ho : o ≤ xs.length) (hfit : o + vs.length ≤ size) (h1 : ∀ v ∈ vs, v.oneCell' = true) :
    ∃ w', (storeCells ⟨g, o, none⟩ vs 0).run P w = .ok () w' ∧ RowI w' g T size (xs.take o ++ vs ++ xs.drop (o + vs.length)) ∧ w.grownBy w' (some g) ∧ w'.heap.size = w.heap.size := by
  obtain ⟨ys, c1, c2⟩ := h
  have hst := run_storeCells_at P g o T vs 0 _ w c1 (by simpa [c2] using hfit) h1
  simp only [Nat.add_zero] at hst
  have hl : xs.length ≤ size := by rw [← c2]; simp
  have key : (xs ++ ys).take o ++ vs ++ (xs ++ ys).drop (o + vs.length) = (xs.take o ++ vs ++ xs.drop (o + vs.length)) ++ ys.drop (o + vs.length - xs.length) := by
    rw [List.take_append_of_le_length ho, List.drop_append]
    simp
  rw [key] at hst
  have hh := setRow_heap w g _ ((xs.take o ++ vs ++ xs.drop (o + vs.length)) ++ ys.drop (o + vs.length - xs.length)).toArray T _ c1
  refine ⟨_, hst, ⟨_, hh, ?_⟩, ⟨rfl, rfl, rfl, by simp, fun i _ hi => setRow_other w g i _ (fun e => hi (by rw [e]))⟩, by simp⟩
  · rw [← key]
    simp only [List.length_append] at c2
    simp only [List.length_append, List.length_take, List.length_drop]
    omega

theorem run_copy_k {P : Program} {w : World} {g size : Nat} {T : TypeId} {xs : List Value} (h : RowI w g T size xs) (k : Nat) (dT sT elem : TypeId) (o dLen dCap : Nat) (a : Addr) (sLen sCap : Nat) (cs : List Value)
    (hu : P.underlying dT = some (.slice elem)) (hs : (P.info? elem).map (·.size) = some k) (hn : cs.length = Nat.min sLen dLen * k)
    (hsrc : ∀ j v, cs[j]? = some v → w.cell? (a.add j) = some v) (ho : o ≤ xs.length) (hfit : o + cs.length ≤ size) (h1 : ∀ v ∈ cs, v.oneCell' = true) :
    ∃ w', (∀ ty, (Builtin.copy_ #[dT, sT] ty #[.slice (some ⟨g, o, none⟩) dLen dCap, .slice (some a) sLen sCap]).run P w = .ok (goInt (Nat.min sLen dLen)) w') ∧ RowI w' g T size (xs.take o ++ cs ++ xs.drop (o + cs.length)) ∧ w.grownBy w' (some g) ∧ w'.heap.size = w.heap.size := by
  have hl := run_loadCells_list (P := P) w a cs hsrc
  obtain ⟨w', hst, h2, h3, h4⟩ := h.put P o cs ho hfit h1
  refine ⟨w', fun ty => ?_, h2, h3, h4⟩
  cases hq : P.info? elem with
  | none => simp [hq] at hs
  | some i =>
    have hi : i.size = k := by simpa [hq] using hs
    simp [Builtin.copy_, run_underlying hu, Builtin.lenOf, Builtin.firstCells, sizeOf, typeInfo, hq, hi, ← hn, hl, hst]

theorem zero_len (z : Array Value) (n : Nat) : (Builtin.zeroCells z n).toList.length = n * z.size := by simp [Builtin.zeroCells]
theorem run_clear_k {P : Program} {w : World} {g size : Nat} {T : TypeId} {xs : List Value} (h : RowI w g T size xs) (t e : TypeId) (z : Value) (ht : P.underlying t = some (.slice e)) (hv : ∀ w, (zeroValue e).run P w = .ok z w)
    (o n c : Nat) (hn : 0 < n) (ho : o ≤ xs.length) (hfit : o + n * z.cells.size ≤ size) (h1 : ∀ v ∈ (Builtin.zeroCells z.cells n).toList, v.oneCell' = true) :
    ∃ w' zs, (∀ ty, (Builtin.clear_ #[t] ty #[.slice (some ⟨g, o, none⟩) n c]).run P w = .ok (.tuple #[]) w') ∧ RowI w' g T size (xs.take o ++ zs) ∧ w.grownBy w' (some g) ∧ w'.heap.size = w.heap.size := by
  obtain ⟨w', hst, h2, h3, h4⟩ := h.put P o _ ho (by rw [zero_len]; exact hfit) h1
  rw [List.append_assoc] at h2
  obtain ⟨m, rfl⟩ : ∃ m, n = m + 1 := ⟨n - 1, by omega⟩
  refine ⟨w', _, fun ty => ?_, h2, h3, h4⟩
  simp [Builtin.clear_, run_underlying ht, hv, hst]
end Go.Proofs.YtpjaopcgoaannaaGreatDoor
