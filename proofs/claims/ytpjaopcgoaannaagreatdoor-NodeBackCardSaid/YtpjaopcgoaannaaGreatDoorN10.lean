/- slices.DeleteFunc and node.drop at the structs of a node. Written by gen_n10.py. -/
import Derived.Test.YtpjaopcgoaannaaGreatDoorN9
import Derived.Deep.RegionWith
namespace Go.Proofs.YtpjaopcgoaannaaGreatDoor
open Go.RowKit
open Hb

/-- what a function value answers about one, in every world in which one row alone was written -/
def PredG {α : Type} (enc : α → List Value) (g : Nat) (lb : Array Value) (p : α → Bool) (r : Option Nat) (w : World) : Prop := ∀ x W, w.grownBy W r → Calls Tryz.prog g (#[.agg (enc x).toArray] ++ lb) W fun e w' => e = .returned (.bool (p x)) ∧ Below W.heap.size W w'
theorem PredG.b {α : Type} {enc : α → List Value} {g : Nat} {lb : Array Value} {p : α → Bool} {r : Option Nat} {w : World} (h : PredG enc g lb p r w) : PredB enc g lb p w := fun x W hW => h x W (gBelow hW r)

/-- the row while it is sifted: ahead of i what is kept of the first j, from j on as it was -/
structure Sift {α : Type} (p : α → Bool) (l cur : List α) (i j : Nat) : Prop where
  len : cur.length = l.length
  lt : i < j
  le : j ≤ l.length
  low : cur.take i = (l.take j).filter fun x => !p x
  high : cur.drop j = l.drop j
theorem eqS_def (a b : ByteArray) : eqS a b = (a.toList == b.toList) := rfl
theorem below_box {w w1 : World} {o : Obj} (h : Below (w.alloc o).drew.heap.size (w.alloc o).drew w1) : Below w.heap.size w w1 := (((Below.refl w.heap.size w).alloc (Nat.le_refl _) o).drew).trans (h.mono (by show _ ≤ (w.alloc o).heap.size; simp))
theorem Sift.start {α : Type} {p : α → Bool} {l : List α} (k : Nat) (hk : k < l.length) (h0 : ∀ j (h : j < k), p (l[j]'(by omega)) = false) (h : p l[k] = true) : Sift p l l k (k + 1) := by
  refine ⟨rfl, by omega, hk, ?_, rfl⟩
  rw [List.take_succ_eq_append_getElem hk, List.filter_append]
  have e1 : (l.take k).filter (fun x => !p x) = l.take k := by
    rw [List.filter_eq_self]
    intro x hx
    obtain ⟨j, hj, rfl⟩ := List.getElem_of_mem hx
    rw [List.length_take] at hj
    rw [List.getElem_take, h0 j (by omega)]
    rfl
  rw [e1]
  simp [h]
theorem Sift.at {α : Type} {p : α → Bool} {l cur : List α} {i j : Nat} (h : Sift p l cur i j) (hj : j < l.length) : cur[j]'(by rw [h.len]; exact hj) = l[j] := by
  have h1 : (cur.drop j)[0]? = (l.drop j)[0]? := by rw [h.high]
  rw [List.getElem?_drop, List.getElem?_drop, Nat.add_zero, List.getElem?_eq_getElem (by rw [h.len]; exact hj), List.getElem?_eq_getElem hj] at h1
  exact Option.some.inj h1
theorem Sift.skip {α : Type} {p : α → Bool} {l cur : List α} {i j : Nat} (h : Sift p l cur i j) (hj : j < l.length) (hp : p l[j] = true) : Sift p l cur i (j + 1) := by
  refine ⟨h.len, by have := h.lt; omega, hj, ?_, ?_⟩
  · rw [List.take_succ_eq_append_getElem hj, List.filter_append, ← h.low]
    simp [hp]
  · rw [← List.drop_drop, ← List.drop_drop, h.high]
theorem Sift.keep {α : Type} {p : α → Bool} {l cur : List α} {i j : Nat} (h : Sift p l cur i j) (hj : j < l.length) (hp : p l[j] = false) : Sift p l (cur.set i l[j]) (i + 1) (j + 1) := by
  have hlt := h.lt
  have hlen := h.len
  refine ⟨by rw [List.length_set]; exact h.len, by omega, hj, ?_, ?_⟩
  · rw [List.take_succ_eq_append_getElem (by rw [List.length_set]; omega), List.take_set_of_le (Nat.le_refl i), List.getElem_set_self, h.low, List.take_succ_eq_append_getElem hj, List.filter_append]
    simp [hp]
  · rw [List.drop_set_of_lt (by omega), ← List.drop_drop, ← List.drop_drop, h.high]
theorem Sift.done {α : Type} {p : α → Bool} {l cur : List α} {i : Nat} (h : Sift p l cur i l.length) : cur.take i = l.filter fun x => !p x := by
  rw [h.low, List.take_length]

theorem zeroAff : ∀ w, (zeroValue 49).run Tryz.prog w = .ok (.agg #[.string ⟨#[]⟩, .int .u8 0]) w := by
  obtain ⟨i0, hi, h0, h1, h2⟩ := info_parts infoAff
  intro w
  simp [zeroValue, typeInfo, hi, h0]
theorem zeroOneAff (n : Nat) : ∀ v ∈ (Builtin.zeroCells (Value.agg #[.string ⟨#[]⟩, .int .u8 0]).cells n).toList, v.oneCell' = true := by
  intro v hv
  have h0 : 0 < (Value.agg #[.string ⟨#[]⟩, .int .u8 0]).cells.size := by decide
  simp only [Builtin.zeroCells, Array.toList_map, List.mem_map, Array.mem_toList_iff, Array.mem_range] at hv
  obtain ⟨i, hi, rfl⟩ := hv
  have hm := Nat.mod_lt i h0
  generalize i % (Value.agg #[.string ⟨#[]⟩, .int .u8 0]).cells.size = q at hm
  change q < 2 at hm
  rcases q with _ | _ | _ | q <;> first | rfl | omega

/-- the key of one, by a function of the program -/
def OfFAff (f : Nat) : Prop := (∀ args w, (callFunc f args).run Tryz.prog w = .ok (.enter f args) w) ∧ ∀ (x : PAff) W, Calls Tryz.prog f #[.agg x.enc.toArray] W fun e w' => e = .returned (.string x.jid) ∧ Below W.heap.size W w'
theorem zeroSub : ∀ w, (zeroValue 51).run Tryz.prog w = .ok (.agg #[.string ⟨#[]⟩, .bool false, .int .i64 0]) w := by
  obtain ⟨i0, hi, h0, h1, h2⟩ := info_parts infoSub
  intro w
  simp [zeroValue, typeInfo, hi, h0]
theorem zeroOneSub (n : Nat) : ∀ v ∈ (Builtin.zeroCells (Value.agg #[.string ⟨#[]⟩, .bool false, .int .i64 0]).cells n).toList, v.oneCell' = true := by
  intro v hv
  have h0 : 0 < (Value.agg #[.string ⟨#[]⟩, .bool false, .int .i64 0]).cells.size := by decide
  simp only [Builtin.zeroCells, Array.toList_map, List.mem_map, Array.mem_toList_iff, Array.mem_range] at hv
  obtain ⟨i, hi, rfl⟩ := hv
  have hm := Nat.mod_lt i h0
  generalize i % (Value.agg #[.string ⟨#[]⟩, .bool false, .int .i64 0]).cells.size = q at hm
  change q < 3 at hm
  rcases q with _ | _ | _ | q <;> first | rfl | omega

/-- the key of one, by a function of the program -/
def OfFSub (f : Nat) : Prop := (∀ args w, (callFunc f args).run Tryz.prog w = .ok (.enter f args) w) ∧ ∀ (x : PSub) W, Calls Tryz.prog f #[.agg x.enc.toArray] W fun e w' => e = .returned (.string x.jid) ∧ Below W.heap.size W w'
theorem zeroItem : ∀ w, (zeroValue 53).run Tryz.prog w = .ok (.agg #[.string ⟨#[]⟩, .string ⟨#[]⟩, .string ⟨#[]⟩]) w := by
  obtain ⟨i0, hi, h0, h1, h2⟩ := info_parts infoItem
  intro w
  simp [zeroValue, typeInfo, hi, h0]
theorem zeroOneItem (n : Nat) : ∀ v ∈ (Builtin.zeroCells (Value.agg #[.string ⟨#[]⟩, .string ⟨#[]⟩, .string ⟨#[]⟩]).cells n).toList, v.oneCell' = true := by
  intro v hv
  have h0 : 0 < (Value.agg #[.string ⟨#[]⟩, .string ⟨#[]⟩, .string ⟨#[]⟩]).cells.size := by decide
  simp only [Builtin.zeroCells, Array.toList_map, List.mem_map, Array.mem_toList_iff, Array.mem_range] at hv
  obtain ⟨i, hi, rfl⟩ := hv
  have hm := Nat.mod_lt i h0
  generalize i % (Value.agg #[.string ⟨#[]⟩, .string ⟨#[]⟩, .string ⟨#[]⟩]).cells.size = q at hm
  change q < 3 at hm
  rcases q with _ | _ | _ | q <;> first | rfl | omega

/-- the key of one, by a function of the program -/
def OfFItem (f : Nat) : Prop := (∀ args w, (callFunc f args).run Tryz.prog w = .ok (.enter f args) w) ∧ ∀ (x : PItem) W, Calls Tryz.prog f #[.agg x.enc.toArray] W fun e w' => e = .returned (.string x.id) ∧ Below W.heap.size W w'
theorem ofAff : OfFAff 25 := ⟨enters_of Tryz.func25 (by kernel_rfl) rfl, affOf_any⟩
theorem ofSub : OfFSub 27 := ⟨enters_of Tryz.func27 (by kernel_rfl) rfl, subOf_any⟩
end Go.Proofs.YtpjaopcgoaannaaGreatDoor
