/- A parameter of bytes: what it holds, and that it reads afterwards as before. -/
import Derived.Test.YtppgjkjdddanbaaDoorG12
import Derived.WalkKit
import Derived.ProofKit
import Derived.OpenShut
import Derived.ShutString
import Derived.ChangeOld
import Derived.Below
import Derived.SizedLaws
import Derived.Lay
import Derived.LaidOnce
namespace Go.Proofs.YtppgjkjdddanbaaDoor
open Go.ChangeShapes Go.WideShapes Go.ChangeAt Go.RowKit

theorem u8_wf {n : Int} (h : (Lit.int .u8 n).wf = true) : ((UInt8.ofNat n.toNat).toNat : Int) = n := by
  simp [Lit.wf, IntKind.min, IntKind.max, IntKind.signed, IntKind.bits] at h
  have h1 : n.toNat < 256 := by omega
  rw [UInt8.toNat_ofNat_of_lt' (by simpa using h1)]
  omega

set_option maxRecDepth 100000 in
theorem open_bytes {H : Type} {enc : TypeId × Value → H} {W : World} {base : Nat} {v : Value} {d : DataW H} {p : List MemPlace} (h : DataW.Trod enc Tryd.prog W 0 (fun _ => true) true 22 v d p) (hok : Value.okWide Tryd.prog W .any base 22 v) :
    ∃ l : List UInt8, InB W v l ∧ l.length ≤ maxLen ∧ ∀ (W' : World) (sp : Nat → Bool) (hd : Bool), Below W.heap.size W W' → (∀ b, b < W.heap.size → sp b = true) → DataW.Trod enc Tryd.prog W' 0 sp hd 22 v d p := by
  obtain ⟨ad0, n0, c0, rfl⟩ := okWide_slice Tryd.underlying22 hok
  obtain ⟨fuel0, hf0⟩ := h
  rcases open_ints Tryd.underlying22 Tryd.underlying5 (by kernel_rfl) hf0 with ⟨hcs, hx⟩ | ⟨a, len, cap, zs, hcs, hb, hl, hm, hz, hx, hcell, hwz⟩
  · cases hcs
    cases hx
    exact ⟨[], ⟨none, 0, rfl, Nat.le_refl _, Or.inl rfl⟩, Nat.zero_le maxLen, fun W' sp hd _ _ => shut_slice_nil Tryd.underlying22⟩
  · cases hcs
    cases hx
    have hhas : W.has Tryd.prog .any base a 5 c0 := by
      simp only [Value.okWide, Tryd.underlying22, Cell.okWide, Cell.ok] at hok
      exact hok.2.2
    obtain ⟨_, hsp, row, cells, hsh, _⟩ := hhas
    obtain ⟨blk, off, sp⟩ := a
    simp only at hsp hsh
    subst hsp
    have hblk : blk < W.heap.size := by
      rcases Nat.lt_or_ge blk W.heap.size with q | q
      · exact q
      · simp [World.shape?, Array.getElem?_eq_none q] at hsh
    have hzc : zs.length = c0 := by simpa using hz
    have hadd : ∀ i, (⟨blk, off, none⟩ : Addr).add i = ⟨blk, off + i, none⟩ := by intro i; unfold Addr.add; split <;> simp_all
    have hll : ((zs.take n0).map fun z => UInt8.ofNat z.toNat).length = n0 := by rw [List.length_map, List.length_take]; omega
    refine ⟨(zs.take n0).map fun z => UInt8.ofNat z.toNat, ⟨_, c0, by rw [hll], by rw [hll]; exact hl, .inr ⟨blk, off, rfl, hblk, fun i hi => ?_⟩⟩, by rw [hll]; exact Nat.le_trans hl hm, fun W' sp hd bel hsp => ?_⟩
    · have hi2 : i < zs.length := by omega
      have := hcell i hi2
      rw [hadd] at this
      rw [this]
      simp only [List.getElem_map, List.getElem_take]
      rw [u8_wf (hwz _ (List.getElem_mem hi2))]
      simp [List.getD, hi2]
    · exact ⟨2, shut_ints 0 Tryd.underlying22 Tryd.underlying5 (by kernel_rfl) hb hl hm (by simpa [hsp blk hblk] using hz) (fun i hi => (bel.cell (p := Addr.add ⟨blk, off, none⟩ i) (by unfold Addr.add; split <;> exact hblk)).trans (hcell i hi)) hwz⟩
end Go.Proofs.YtppgjkjdddanbaaDoor
