/- the laws' few; bytes that a law is given; what a Feed leaves as it was. -/
import Derived.Test.YtppgjkjdddanbaaDoorG11
namespace Go.Proofs.YtppgjkjdddanbaaDoor
open Go.RowKit
open Hb

def InB (w : World) (v : Value) (l : List UInt8) : Prop := ∃ a cap, v = .slice a l.length cap ∧ l.length ≤ cap ∧ (l = [] ∨ ∃ g off, a = some ⟨g, off, none⟩ ∧ g < w.heap.size ∧ ∀ i (h : i < l.length), w.cell? ⟨g, off + i, none⟩ = some (.int .u8 l[i].toNat))

theorem InB.bytesAt {w W : World} {v : Value} {l : List UInt8} (h : InB w v l) (hb : Below w.heap.size w W) {base A : Nat} (hA : w.heap.size ≤ A) (hbase : w.heap.size ≤ base) : BytesAt W base A v l := by
  obtain ⟨a, cap, e, _, h⟩ := h
  refine ⟨a, cap, e, ?_⟩
  rcases h with h | ⟨g, off, ha, hg, hc⟩
  · exact .inl h
  · exact .inr ⟨g, off, ha, by omega, by omega, fun i hi => (hb.cell (p := ⟨g, off + i, none⟩) hg).trans (hc i hi)⟩

theorem InB.take {w : World} {a : Option Addr} {cap : Nat} {l : List UInt8} (h : InB w (.slice a l.length cap) l) (n : Nat) (hn : n ≤ l.length) : InB w (.slice a n cap) (l.take n) := by
  obtain ⟨a', cap', e, hc, h⟩ := h
  cases e
  have hl : (l.take n).length = n := by rw [List.length_take]; omega
  refine ⟨a, cap, by rw [hl], by omega, ?_⟩
  rcases h with h | ⟨g, off, ha, hg, hc⟩
  · subst h; exact .inl (by simp)
  · exact .inr ⟨g, off, ha, hg, fun i hi => by rw [hc i (by omega)]; simp⟩

theorem few_any (v : Value) (l : List UInt8) (w W : World) (h : InB w v l) (hl : l.length ≤ 9223372036854775807) :
    Calls Tryd.prog 13 #[v] W fun o w' => (∃ v', o = .returned v' ∧ InB w v' (l.take 3000)) ∧ w' = W := by
  have h2 := h
  obtain ⟨a, cap, rfl, hc, _⟩ := h2
  have HI := Lib.hid h
  clear h
  by_cases hn : 3000 < l.length
  · have c1 : decide ((3000 : Int) < (l.length : Int)) = true := by simp; omega
    have HT := Lib.hid (HI.out.take 3000 (by omega))
    have c2 : (3000 : Int) ≤ (cap : Int) := by omega
    go_enter Tryd.func13, Tryd.ntmps13
    go_wp2_with fail
    go_returns
    exact ⟨⟨_, rfl, HT.out⟩, rfl⟩
  · have c1 : decide ((3000 : Int) < (l.length : Int)) = false := by simp; omega
    go_enter Tryd.func13, Tryd.ntmps13
    go_wp2_with fail
    go_returns
    refine ⟨⟨_, rfl, ?_⟩, rfl⟩
    rw [List.take_of_length_le (by omega)]
    exact HI.out

theorem FF.belowOf {A base B : Nat} {w w' : World} (h : FF A base w w') (hA : B ≤ A) (hb : B ≤ base) (hw : B ≤ w.heap.size) : Below B w w' :=
  ⟨h.os, h.tape, h.output, h.size, fun k hk => h.block k (by omega) (fun hs => by rcases hs with hs | ⟨hs, _⟩ <;> omega)⟩

theorem fit0 : Fit8 ps0 := ⟨by decide, by decide⟩

theorem runP_fit : ∀ (l : List UInt8) (p : PS), Fit8 p → (runP p l).1.opn.length ≤ 8 ∧ (runP p l).1.wait.length ≤ 2049 ∧ ((runP p l).2.2 = 0 → Fit8 (runP p l).1) ∧ (p.broken = 0 → (runP p l).1.broken = (runP p l).2.2)
  | [], p, h => ⟨h.opn, by have := h.wait; show p.wait.length ≤ _; omega, fun _ => h, fun h0 => h0⟩
  | c :: b, p, h => by
    have hf := takeP_fit p c h
    by_cases h0 : (takeP p c).2.2 = 0
    · have ih := runP_fit b (takeP p c).1 (takeP_fit8 h h0)
      rw [runP_step h0]
      exact ⟨ih.1, ih.2.1, ih.2.2.1, fun hb => ih.2.2.2 (hf.2.2.2.1.trans hb)⟩
    · rw [runP_stop h0]
      exact ⟨hf.1, hf.2.1, fun hz => absurd hz h0, fun _ => rfl⟩

theorem Par.new (w : World) : Par (w.alloc (.cells #[.slice none 0 0, .int .u8 0, .slice none 0 0, .bool false, .bool false, .int .i64 0] 47)) w.heap.size w.heap.size ps0 (.slice none 0 0) (.slice none 0 0) :=
  ⟨(MapKept.heap_alloc w _).1, OwnB.nil _ _ _, World.ownsRow_nil _ _ _ _⟩
end Go.Proofs.YtppgjkjdddanbaaDoor
