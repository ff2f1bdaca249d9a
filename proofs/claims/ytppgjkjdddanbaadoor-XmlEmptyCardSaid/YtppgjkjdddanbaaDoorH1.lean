/- the laws' own 'live'. -/
import Derived.Test.YtppgjkjdddanbaaDoorH0
import Derived.Lib.SlBytesConst
import Derived.Lib.ConvBytes
namespace Go.Proofs.YtppgjkjdddanbaaDoor
open Go.RowKit
open Hb

theorem cellsB_at (l : List UInt8) (i : Nat) (h : i < l.length) : (cellsB l)[i]? = some (.int .u8 l[i].toNat) := by simp [cellsB, h]

/-- bytes that were just laid. -/
theorem bytesNew (W : World) (l : List UInt8) (cells : Array Value) (hc : cells.toList = cellsB l) (A : Nat) (hA : A < W.heap.size) (base : Nat) (hb : W.heap.size < base) (m : Nat × Nat) : BytesAt (W.alloc (.cells cells 5 m)) base A (.slice (some ⟨W.heap.size, 0, none⟩) l.length l.length) l := by
  refine ⟨_, _, rfl, .inr ⟨W.heap.size, 0, rfl, hb, by omega, fun i hi => ?_⟩⟩
  have hbx : (W.alloc (.cells cells 5 m)).heap[W.heap.size]? = some (.cells cells 5 m) := (MapKept.heap_alloc W _).1
  have hcl : (W.alloc (.cells cells 5 m)).cell? ⟨W.heap.size, 0 + i, none⟩ = cells[0 + i]? := by unfold World.cell?; rw [hbx]; rfl
  rw [hcl, Nat.zero_add]
  have := cellsB_at l i hi
  rw [← hc] at this
  simpa using this

theorem FF.belowNew {A base : Nat} {w w1 w2 : World} (hb : Below w.heap.size w w1) (hf : FF A base w1 w2) (hA : w.heap.size ≤ A) (hbase : w.heap.size ≤ base) : Below w.heap.size w w2 := hb.trans (hf.belowOf hA hbase hb.size)

set_option maxRecDepth 100000 in
set_option maxHeartbeats 8000000 in
theorem live_any (w : World) : Calls Tryd.prog 14 #[] w fun e w' => e = .returned (.bool true) ∧ Below w.heap.size w w' := by
  have HN := Lib.hid (new_any w)
  have hcv := fun (w : World) (C : Array Value) (n c : Nat) => Lib.run_convert_bytes_const (P := Tryd.prog) w 22 5 C n c Tryd.underlying22 Tryd.underlying5
  go_enter Tryd.func14, Tryd.ntmps14
  go_wp2_with fail
  go_at_call 11
  with_reducible refine HN.out.mono ?_
  rintro e w1 ⟨rfl, hw1⟩
  have hb1 : Below w.heap.size w w1 := by rw [hw1]; exact (Below.refl _ w).alloc (Nat.le_refl _) _
  have hs1 : w1.heap.size = w.heap.size + 1 := by rw [hw1, World.size_alloc]
  have hP1 : Par w1 w.heap.size w.heap.size ps0 (.slice none 0 0) (.slice none 0 0) := by rw [hw1]; exact Par.new w
  obtain ⟨A, hA⟩ : ∃ A, A = w.heap.size := ⟨_, rfl⟩
  rw [← hA] at hs1 hP1 hb1
  rw [← hA]
  have HB1 := Lib.hid hb1
  have hbl := (Below.refl w1.heap.size w1).alloc (Nat.le_refl _) (.cells #[.int .u8 60, .int .u8 97, .int .u8 32, .int .u8 98, .int .u8 61, .int .u8 39, .int .u8 49, .int .u8 39, .int .u8 62, .int .u8 120] 5 (10, 11))
  have hf1 := feed_told (w1.heap.size + 1) (w1.heap.size + 1) A ps0 [60, 97, 32, 98, 61, 39, 49, 39, 62, 120] _ _ (.slice (some ⟨w1.heap.size, 0, none⟩) 10 10) _ ⟨(hP1.below hbl).box, OwnB.nil _ _ _, (hP1.below hbl).opn⟩ (.inl rfl) fit0 rfl (bytesNew w1 [60, 97, 32, 98, 61, 39, 49, 39, 62, 120] #[.int .u8 60, .int .u8 97, .int .u8 32, .int .u8 98, .int .u8 61, .int .u8 39, .int .u8 49, .int .u8 39, .int .u8 62, .int .u8 120] rfl A (by omega) (w1.heap.size + 1) (by omega) (10, 11)) (by rw [World.size_alloc]; exact Nat.le_refl _) (by decide)
  rw [live_one] at hf1
  have HF1 := Lib.hid hf1
  have HS1 := Lib.hid hs1
  have HBL := Lib.hid hbl
  have HA := Lib.hid hA
  clear hf1 hP1 hb1 hw1 hbl hs1 hA
  go_wp2_with fail
  go_at_call 12
  with_reducible refine HF1.out.mono ?_
  rintro e w3 ⟨vw1, vo1, v1, rfl, hP3, hT3, hFF3⟩
  obtain ⟨a1, c1, rfl, h1⟩ := hT3.nilOr
  obtain ⟨g1, rfl, _, _, _⟩ := h1 (by simp)
  have hA3 := hP3.box.tag
  have hbl3 := (Below.refl w3.heap.size w3).alloc (Nat.le_refl _) (.cells #[.int .u8 60, .int .u8 47, .int .u8 97, .int .u8 62] 5 (4, 5))
  have hf2 := feed_told (w1.heap.size + 1) (w3.heap.size + 1) A ⟨[120], 0, [⟨#[97]⟩], true, true, 0⟩ [60, 47, 97, 62] _ _ (.slice (some ⟨w3.heap.size, 0, none⟩) 4 4) _ (hP3.below hbl3) (.inr ⟨60, [47, 97, 62], rfl, by decide⟩) ⟨by decide, by decide⟩ rfl (bytesNew w3 [60, 47, 97, 62] #[.int .u8 60, .int .u8 47, .int .u8 97, .int .u8 62] rfl A hP3.box.lt (w3.heap.size + 1) (by omega) (4, 5)) (by rw [World.size_alloc]; exact Nat.le_refl _) (by decide)
  rw [live_two] at hf2
  have HF2 := Lib.hid hf2
  have HT3 := Lib.hid (hT3.below hbl3)
  have HB3 := Lib.hid (hFF3.belowOf (B := A) (Nat.le_refl _) (by have := HS1.out; omega) (by rw [World.size_alloc]; have := HS1.out; omega))
  have HBL3 := Lib.hid hbl3
  have HAL := Lib.hid (hP3.box.lt)
  have HA3 := Lib.hid (show Tg (w3.alloc (.cells #[.int .u8 60, .int .u8 47, .int .u8 97, .int .u8 62] 5 (4, 5))) 47 A from (hP3.below hbl3).box.tag)
  clear hf2 hP3 hT3 hFF3 hA3 hbl3 h1
  go_wp2_with fail
  go_at_call 12
  with_reducible refine HF2.out.mono ?_
  rintro e w5 ⟨vw2, vo2, v2, rfl, hP5, hT5, hFF5⟩
  obtain ⟨a2, c2, rfl, h2⟩ := hT5.nilOr
  obtain ⟨g2, rfl, _, _, _⟩ := h2 (by simp)
  have hT3 := HT3.out.ff hFF5 HA3.out
  obtain ⟨_, _, hx1, _⟩ := hT3.at 0 (by decide)
  obtain ⟨_, _, _, _, hx3, _⟩ := hT5.at 0 (by decide)
  have x1 : w5.cell? ⟨g1, 1, none⟩ = some (.string ⟨#[97]⟩) := hx1
  have x3 : w5.cell? ⟨g2, 3, none⟩ = some (.string ⟨#[120]⟩) := hx3
  obtain ⟨go, co, rfl⟩ := row_slice hP5.opn
  have HDP := Lib.hid (depth_any A _ _ _ _ _ go 0 co w5 hP5.box)
  have HB5 := Lib.hid (hFF5.belowOf (B := A) (Nat.le_refl _) (by have := HAL.out; omega) (by rw [World.size_alloc]; have := HAL.out; omega))
  have z1 : ((1 : Nat) : Int) = 1 := rfl
  clear hT3 hT5 hP5 hFF5 hx1 hx3 h2
  go_wp2_with fail
  go_at_call 15
  with_reducible refine HDP.out.mono ?_
  rintro e w6 ⟨rfl, hw6⟩
  obtain rfl := hw6.symm
  go_wp2_with fail
  go_returns
  have hb0 := HB1.out
  rw [HA.out] at hb0
  have hb1 := HBL.out
  refine ⟨rfl, ?_⟩
  rw [HA.out] at *
  exact ((hb0.trans (hb1.mono hb0.size)).trans HB3.out).trans ((HBL3.out.mono (Nat.le_trans (hb0.trans (hb1.mono hb0.size)).size HB3.out.size)).trans HB5.out)
end Go.Proofs.YtppgjkjdddanbaaDoor
