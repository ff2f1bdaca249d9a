/- Words for xml's walks: a block of cells, what a call may change; piece. -/
import Derived.Test.YtppgjkjdddanbaaDoorF1
namespace Go.Proofs.YtppgjkjdddanbaaDoor
open Go.RowKit
open Hb

/-- A struct in memory: the one fact about it. -/
def Box (w : World) (A : Nat) (T : TypeId) (cs : Array Value) : Prop := w.heap[A]? = some (.cells cs T (0, 0))
theorem Box.set {w : World} {A : Nat} {T : TypeId} {cs : Array Value} (h : Box w A T cs) (i : Nat) (v : Value) : Box (w.setCell ⟨A, i, none⟩ v) A T (cs.setIfInBounds i v) := by
  unfold Box World.setCell at *
  simp [Array.getElem?_modify, h]
theorem Box.lt {w : World} {A : Nat} {T : TypeId} {cs : Array Value} (h : Box w A T cs) : A < w.heap.size := by
  unfold Box at h
  rw [Array.getElem?_eq_some_iff] at h
  exact h.1
theorem Box.cell {w : World} {A : Nat} {T : TypeId} {cs : Array Value} (h : Box w A T cs) (i : Nat) : w.cell? ⟨A, i, none⟩ = cs[i]? := by unfold World.cell?; rw [h]; rfl
theorem Box.f {w : World} {A : Nat} {T : TypeId} {cs : Array Value} (h : Box w A T cs) (j : Nat) : w.frozen? ⟨A, j, none⟩ = false := by unfold World.frozen?; rw [h]; simp

/-- What a call may change: the blocks S, beside new ones. -/
structure Only (S : Nat → Prop) (w w' : World) : Prop where
  os : w'.os = w.os
  tape : w'.tape = w.tape
  output : w'.output = w.output
  size : w.heap.size ≤ w'.heap.size
  block : ∀ k, k < w.heap.size → ¬ S k → w'.heap[k]? = w.heap[k]?
theorem Only.refl (S : Nat → Prop) (w : World) : Only S w w := ⟨rfl, rfl, rfl, Nat.le_refl _, fun _ _ _ => rfl⟩
theorem Only.trans {S S1 : Nat → Prop} {w w1 w2 : World} (h : Only S w w1) (k : Only S1 w1 w2) (hs : ∀ i, i < w.heap.size → S1 i → S i) : Only S w w2 :=
  ⟨k.os.trans h.os, k.tape.trans h.tape, k.output.trans h.output, Nat.le_trans h.size k.size, fun i hi hn => (k.block i (by have := h.size; omega) (fun c => hn (hs i hi c))).trans (h.block i hi hn)⟩
theorem Only.weaken {S S1 : Nat → Prop} {w w1 : World} (h : Only S w w1) (hs : ∀ i, S i → S1 i) : Only S1 w w1 :=
  ⟨h.os, h.tape, h.output, h.size, fun i hi hn => h.block i hi (fun c => hn (hs i c))⟩
theorem Below.only {w w' : World} (h : Below w.heap.size w w') (S : Nat → Prop) : Only S w w' := ⟨h.os, h.tape, h.output, h.size, fun i hi _ => h.block i hi⟩
theorem grown_only {w w' : World} {r : Option Nat} (h : w.grownBy w' r) : Only (fun k => some k = r) w w' := ⟨h.os, h.tape, h.output, h.size, h.block⟩
theorem Only.set (w : World) (A i : Nat) (v : Value) : Only (· = A) w (w.setCell ⟨A, i, none⟩ v) := by
  refine ⟨rfl, rfl, rfl, by simp [World.setCell], fun k hk hn => ?_⟩
  unfold World.setCell
  have hn' : ¬ A = k := fun e => hn e.symm
  simp [Array.getElem?_modify, hn']
theorem Only.box {S : Nat → Prop} {w w' : World} (h : Only S w w') {A : Nat} {T : TypeId} {cs : Array Value} (hb : Box w A T cs) (hn : ¬ S A) : Box w' A T cs := (h.block A hb.lt hn).trans hb

set_option maxRecDepth 100000 in
set_option maxHeartbeats 4000000 in
theorem piece_any (A : Nat) (vw q vo ro be br : Value) (l : List UInt8) (w : World) (hx : Box w A 47 #[vw, q, vo, ro, be, br]) (hw : OwnB w 0 5 vw l) :
    Calls Tryd.prog 26 #[.pointer (some ⟨A, 0, none⟩)] w fun o w' => o = .returned (.string ⟨l.toArray⟩) ∧ w' = w.setCell ⟨A, 0, none⟩ (.slice none 0 0) := by
  have x0 : w.cell? ⟨A, 0, none⟩ = some vw := hx.cell 0
  have f0 := hx.f 0
  have hconv := run_string (P := Tryd.prog) Tryd.underlying22 Tryd.underlying5 Tryd.underlying9 hw
  go_enter Tryd.func26, Tryd.ntmps26
  go_wp2
  go_ret
  exact ⟨rfl, rfl⟩
end Go.Proofs.YtppgjkjdddanbaaDoor
