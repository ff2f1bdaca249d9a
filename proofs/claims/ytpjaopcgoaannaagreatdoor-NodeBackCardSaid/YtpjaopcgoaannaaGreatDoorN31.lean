/- A node's rows do not lie in a node's own cells: they read as before behind a store into these. Edits' cells. -/
import Derived.Test.YtpjaopcgoaannaaGreatDoorN21
namespace Go.Proofs.YtpjaopcgoaannaaGreatDoor
open Go.RowKit Go.Lib
open Hb

theorem RowI.cellAt {w : World} {g size : Nat} {T : TypeId} {xs : List Value} (h : RowI w g T size xs) (hs : xs.length = size) (j : Nat) : w.cell? ⟨g, j, none⟩ = xs[j]? := by
  obtain ⟨ys, h1, h2⟩ := h
  obtain rfl : ys = [] := List.eq_nil_of_length_eq_zero (by rw [List.length_append] at h2; omega)
  rw [cell_of_row w g j _ T (0, 0) h1, List.append_nil]
  simp

theorem SlE.goneN {α : Type} {enc : α → List Value} {k : Nat} {w w' : World} {v : Value} {l : List α} (h : SlE enc k w v l) {A : Nat} (_hk : 0 < k) (hg : w.grownBy w' (some A))
    (hne : ∀ (x : α) (off : Nat), ¬ ∀ j, j < k → w.cell? ⟨A, off + j, none⟩ = (enc x)[j]?) : SlE enc k w' v l := by
  obtain ⟨a, c, rfl, hc, h⟩ := h
  refine ⟨a, c, rfl, hc, ?_⟩
  rcases h with h | ⟨g, off, ha, hgl, hx⟩
  · exact .inl h
  cases l with
  | nil => exact .inl rfl
  | cons x r =>
    have hgA : g ≠ A := by
      rintro rfl
      refine hne x off fun j hj => ?_
      have := hx 0 (by simp) j hj
      rw [show off + 0 * k + j = off + j by omega] at this
      exact this
    exact .inr ⟨g, off, ha, Nat.lt_of_lt_of_le hgl hg.size, fun i hi j hj => (World.cell?_of_block (w := w) (a := ⟨g, off + i * k + j, none⟩) (hg.block g hgl (fun e => hgA (Option.some.inj e)))).trans (hx i hi j hj)⟩

theorem NodeV.goneN {w w' : World} {v : Value} {n : PNode} (h : NodeV w v n) {A : Nat} {f0 f7 : ByteArray} {f1 : Bool} {f2 f3 : Int} {b0 b1 b2 : Option Addr} {m0 m1 m2 k0 k1 k2 : Nat} {T : TypeId}
    (hr : RowI w A T 8 [.string f0, .bool f1, .int .u8 f2, .int .i64 f3, .slice b0 m0 k0, .slice b1 m1 k1, .slice b2 m2 k2, .string f7]) (hg : w.grownBy w' (some A)) : NodeV w' v n := by
  have hc := hr.cellAt rfl
  obtain ⟨Av, Sv, Iv, e, ha, hs, hi⟩ := h
  refine ⟨Av, Sv, Iv, e, ha.goneN (by decide) hg ?_, hs.goneN (by decide) hg ?_, hi.goneN (by decide) hg ?_⟩
  · intro x off hq
    have q0 := hq 0 (by decide)
    have q1 := hq 1 (by decide)
    rw [hc] at q0 q1
    rcases off with _ | _ | _ | _ | _ | _ | _ | _ | off <;> simp [PAff.enc] at q0 q1
  · intro x off hq
    have q0 := hq 0 (by decide)
    have q1 := hq 1 (by decide)
    have q2 := hq 2 (by decide)
    rw [hc] at q0 q1 q2
    rcases off with _ | _ | _ | _ | _ | _ | _ | _ | off <;> simp [PSub.enc] at q0 q1 q2
  · intro x off hq
    have q0 := hq 0 (by decide)
    have q1 := hq 1 (by decide)
    have q2 := hq 2 (by decide)
    rw [hc] at q0 q1 q2
    rcases off with _ | _ | _ | _ | _ | _ | _ | _ | off <;> simp [PItem.enc] at q0 q1 q2
/-- an edit's cells -/
def PEdit.enc (x : PEdit) : List Value := [.int .i64 x.kind, .string x.by_, .string x.who, .int .i64 x.depth, .int .i64 x.max, .bool x.yes, .int .u8 x.role, .int .u8 x.access, .string x.item, .string x.text]
/-- an edit's texts are no longer than may be -/
structure SmX (x : PEdit) : Prop where
  who : Sm x.who
  by_ : Sm x.by_
  item : Sm x.item
  text : Sm x.text
/-- bytes, texts, as rows -/
def encB (b : UInt8) : List Value := [.int .u8 b.toNat]
def encS (s : ByteArray) : List Value := [.string s]
end Go.Proofs.YtpjaopcgoaannaaGreatDoor
