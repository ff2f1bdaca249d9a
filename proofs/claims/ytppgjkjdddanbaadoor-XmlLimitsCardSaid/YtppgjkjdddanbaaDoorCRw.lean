/- A parameter of rows of bytes: what it holds. -/
import Derived.Test.YtppgjkjdddanbaaDoorCIn
import Derived.Test.YtppgjkjdddanbaaDoorH3
import Derived.Carry
namespace Go.Proofs.YtppgjkjdddanbaaDoor
open Go.ChangeShapes Go.WideShapes Go.ChangeAt Go.RowKit

theorem bytes_of_trod {H : Type} {enc : TypeId × Value → H} {W : World} {fuel : Nat} {v : Value} {x : DataW H × List MemPlace} (h : DataW.trod enc Tryd.prog W 0 (fun _ => true) true fuel 22 [v] = some x) :
    ∃ l : List UInt8, InB W v l ∧ l.length ≤ maxLen := by
  rcases open_ints Tryd.underlying22 Tryd.underlying5 (by kernel_rfl) h with ⟨hcs, hx⟩ | ⟨a, len, cap, zs, hcs, hb, hl, hm, hz, hx, hcell, hwz⟩
  · cases hcs
    exact ⟨[], ⟨none, 0, rfl, Nat.le_refl _, Or.inl rfl⟩, Nat.zero_le maxLen⟩
  · cases hcs
    have hzc : zs.length = cap := by simpa using hz
    have hll : ((zs.take len).map fun z => UInt8.ofNat z.toNat).length = len := by rw [List.length_map, List.length_take]; omega
    by_cases h0 : len = 0
    · refine ⟨[], ⟨_, cap, by rw [h0]; rfl, Nat.zero_le _, Or.inl rfl⟩, Nat.zero_le maxLen⟩
    · obtain ⟨blk, off, sp⟩ := a
      have hs2 : sp = none := by simpa [Addr.add] using World.cell?_spot (hcell 0 (by omega))
      subst hs2
      have hadd : ∀ i, (⟨blk, off, none⟩ : Addr).add i = ⟨blk, off + i, none⟩ := by intro i; unfold Addr.add; split <;> simp_all
      have hc0 := hcell 0 (by omega)
      have hblk : blk < W.heap.size := by
        have := World.block_lt_of_cell? W _ hc0
        rw [hadd] at this
        exact this
      refine ⟨(zs.take len).map fun z => UInt8.ofNat z.toNat, ⟨_, cap, by rw [hll], by rw [hll]; exact hl, .inr ⟨blk, off, rfl, hblk, fun i hi => ?_⟩⟩, by rw [hll]; exact Nat.le_trans hl hm⟩
      have hi2 : i < zs.length := by omega
      have := hcell i hi2
      rw [hadd] at this
      rw [this]
      simp only [List.getElem_map, List.getElem_take]
      rw [u8_wf (hwz _ (List.getElem_mem hi2))]
      simp [List.getD, hi2]

theorem one_cell {W : World} {x : Addr} {cs : List Value} (h : W.cells? 0 x 1 = some cs) : ∃ c, cs = [c] ∧ W.cell? x = some c := by
  have e0 : x.add 0 = x := by simp [Addr.add]
  simp [World.cells?, List.range_succ, e0] at h
  cases hc : W.cell? x with
  | none => simp [hc] at h
  | some c =>
    simp [hc] at h
    exact ⟨c, h.symm, rfl⟩

set_option maxRecDepth 100000 in
theorem open_rows {H : Type} {enc : TypeId × Value → H} {W : World} {v : Value} {d : DataW H} {p : List MemPlace} (ad0 : Option Addr) (n0 c0 : Nat) (hv : v = .slice ad0 n0 c0) (h : DataW.Trod enc Tryd.prog W 0 (fun _ => true) true 41 v d p) :
    ∃ f, InBB W ad0 n0 c0 f ∧ n0 ≤ maxLen := by
  subst hv
  obtain ⟨fuel, hf⟩ := h
  rcases DataW.trod_slice Tryd.underlying41 hf with ⟨hcs, _⟩ | ⟨a, len, cap, elems, rest, n, rfl, hcs, hx, _, hl, hm, hlen, hel, _, _⟩
  · cases hcs
    exact ⟨fun _ => (.nilIface, []), ⟨Nat.le_refl _, fun i hi => absurd hi (Nat.not_lt_zero _)⟩, Nat.zero_le maxLen⟩
  · cases hcs
    have hc22 : Tryd.prog.cellsOf 22 = 1 := by kernel_rfl
    have H : ∀ i, ∃ x : Value × List UInt8, i < n0 → (∃ g off, some a = some (⟨g, off, none⟩ : Addr) ∧ g < W.heap.size ∧ W.cell? ⟨g, off + i, none⟩ = some x.1) ∧ InB W x.1 x.2 ∧ x.2.length ≤ maxLen := by
      intro i
      by_cases hi : i < n0
      · have hE := hel i hi
        rw [hc22, Nat.mul_one, List.getElem?_eq_getElem (by omega)] at hE
        simp only [Option.bind_eq_some_iff] at hE
        obtain ⟨cs1, hc1, hy1⟩ := hE
        obtain ⟨c, rfl, hcc⟩ := one_cell hc1
        obtain ⟨l, hl1, hl2⟩ := bytes_of_trod hy1
        refine ⟨(c, l), fun _ => ⟨?_, hl1, hl2⟩⟩
        have hE0 := hel 0 (by omega)
        rw [hc22, Nat.mul_one, List.getElem?_eq_getElem (by omega)] at hE0
        simp only [Option.bind_eq_some_iff] at hE0
        obtain ⟨cs0, hc0, _⟩ := hE0
        obtain ⟨c', _, hcc0⟩ := one_cell hc0
        obtain ⟨blk, off, sp⟩ := a
        have hs2 : sp = none := by simpa [Addr.add] using World.cell?_spot hcc0
        subst hs2
        have hadd : ∀ i, (⟨blk, off, none⟩ : Addr).add i = ⟨blk, off + i, none⟩ := by intro i; unfold Addr.add; split <;> simp_all
        rw [hadd] at hcc
        exact ⟨blk, off, rfl, World.block_lt_of_cell? W _ hcc, hcc⟩
      · exact ⟨(.nilIface, []), fun h => absurd h hi⟩
    obtain ⟨f, hf⟩ := Classical.skolem.1 H
    exact ⟨f, ⟨hl, fun i hi => hf i hi⟩, Nat.le_trans hl hm⟩
end Go.Proofs.YtppgjkjdddanbaaDoor
