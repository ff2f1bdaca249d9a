/- The law XmlBroken: the walk. -/
import Derived.Test.YtppgjkjdddanbaaDoorH1
namespace Go.Proofs.YtppgjkjdddanbaaDoor
open Go.RowKit
open Hb

theorem BytesAt.of {w W : World} {base A : Nat} {v : Value} {l : List UInt8} (h : InB w v l) (hc : ∀ g off, g < w.heap.size → W.cell? ⟨g, off, none⟩ = w.cell? ⟨g, off, none⟩) (hA : w.heap.size ≤ A) (hbase : w.heap.size ≤ base) : BytesAt W base A v l := by
  obtain ⟨a, cap, e, _, h⟩ := h
  refine ⟨a, cap, e, ?_⟩
  rcases h with h | ⟨g, off, ha, hg, hx⟩
  · exact .inl h
  · exact .inr ⟨g, off, ha, by omega, by omega, fun i hi => (hc _ _ hg).trans (hx i hi)⟩
theorem InB.below {w W : World} {v : Value} {l : List UInt8} (h : InB w v l) (hb : Below w.heap.size w W) : InB W v l := by
  obtain ⟨a, cap, e, h1, h⟩ := h
  refine ⟨a, cap, e, h1, ?_⟩
  rcases h with h | ⟨g, off, ha, hg, hx⟩
  · exact .inl h
  · exact .inr ⟨g, off, ha, Nat.lt_of_lt_of_le hg hb.size, fun i hi => (hb.cell (p := ⟨g, off + i, none⟩) hg).trans (hx i hi)⟩
theorem few_len (l : List UInt8) : (l.take 3000).length ≤ 3000 := by rw [List.length_take]; omega

set_option maxRecDepth 100000 in
set_option maxHeartbeats 8000000 in
theorem xmlBroken_walk (w : World) (va : Value) (la : List UInt8) (ha : InB w va la) (hla : la.length ≤ maxLen) (vb : Value) (lb : List UInt8) (hb : InB w vb lb) (hlb : lb.length ≤ maxLen) :
    Calls Tryd.prog 7 #[va, vb] w fun e w' => e = .returned (.bool true) ∧ Below w.heap.size w w' := by
  have HA := Lib.hid ha
  have HB := Lib.hid hb
  have HN := Lib.hid (new_any w)
  have HLB := Lib.hid hlb
  unfold maxLen at hla
  have HLA := Lib.hid hla
  have HLV := Lib.hid live_any
  clear ha hb hla hlb
  go_enter Tryd.func7, Tryd.ntmps7
  go_wp2_with fail
  go_at_call 11
  with_reducible refine HN.out.mono ?_
  rintro e w1 ⟨rfl, hw1⟩
  have HB1 := Lib.hid (show Below w.heap.size w w1 by rw [hw1]; exact (Below.refl _ w).alloc (Nat.le_refl _) _)
  have HP1 := Lib.hid (show Par w1 w.heap.size w.heap.size ps0 (.slice none 0 0) (.slice none 0 0) by rw [hw1]; exact Par.new w)
  have HFA := Lib.hid (few_any va la w w1 HA.out (by have := HLA.out; omega))
  clear hw1
  go_wp2_with fail
  go_at_call 13
  with_reducible refine HFA.out.mono ?_
  rintro e w1' ⟨⟨va', rfl, hva⟩, hw⟩
  obtain rfl := hw.symm
  have hlen := few_len la
  generalize la.take 3000 = lf at hva hlen
  obtain ⟨aa, ca, rfl⟩ : ∃ a c, va' = .slice a lf.length c := by obtain ⟨a, c, h, _⟩ := hva; exact ⟨a, c, h⟩
  have hf1 := feed_told w.heap.size w.heap.size w.heap.size ps0 lf _ _ _ w1 HP1.out (.inl rfl) fit0 rfl (hva.bytesAt HB1.out (Nat.le_refl _) (Nat.le_refl _)) HB1.out.size (by omega)
  have hfit := runP_fit lf ps0 fit0
  generalize runP ps0 lf = r at hf1 hfit
  obtain ⟨p1, t1, e1⟩ := r
  dsimp only at hf1 hfit
  have HF1 := Lib.hid hf1
  have HFI := Lib.hid (hfit.2.2.2 rfl)
  clear hf1 hfit hva
  go_wp2_with fail
  go_at_call 12
  with_reducible refine HF1.out.mono ?_
  rintro e w2 ⟨vw2, vo2, v2, rfl, hP2, hT2, hF2⟩
  have HP2 := Lib.hid hP2
  have HB2 := Lib.hid (HB1.out.trans (hF2.belowOf (Nat.le_refl _) (Nat.le_refl _) HB1.out.size))
  clear hP2 hT2 hF2
  by_cases he : e1 = 0
  · subst he
    have c0 : (((0 : Nat) : Int) == 0) = true := rfl
    have HBR := Lib.hid (fun W (hb : Below w2.heap.size w2 W) => broken_any w.heap.size _ _ _ _ _ _ W (HP2.out.below hb).box)
    rw [HFI.out] at HBR
    go_wp2_with fail
    go_at_call 14
    with_reducible refine (HLV.out _).mono ?_
    rintro e w3 ⟨rfl, hB3⟩
    go_wp2_with fail
    go_at_call 18
    with_reducible refine (HBR.out _ hB3).mono ?_
    rintro e w4 ⟨rfl, hw4⟩
    obtain rfl := hw4.symm
    go_wp2_with fail
    go_returns
    exact ⟨rfl, HB2.out.trans (hB3.mono HB2.out.size)⟩
  · have c0 : ((e1 : Int) == 0) = false := by rw [beq_eq_false_iff_ne]; omega
    have HFB := Lib.hid (few_any vb lb w w2 HB.out (by have := HLB.out; unfold maxLen at this; omega))
    go_wp2_with fail
    go_at_call 13
    with_reducible refine HFB.out.mono ?_
    rintro e w2' ⟨⟨vb', rfl, hvb⟩, hw⟩
    obtain rfl := hw.symm
    generalize lb.take 3000 = lg at hvb
    obtain ⟨ab, cb, rfl⟩ : ∃ a c, vb' = .slice a lg.length c := by obtain ⟨a, c, h, _⟩ := hvb; exact ⟨a, c, h⟩
    have HF2 := Lib.hid (feed_broken w.heap.size w.heap.size p1 _ _ ab lg.length cb w2 HP2.out (by rw [HFI.out]; exact he))
    rw [HFI.out] at HF2
    clear hvb
    go_wp2_with fail
    go_at_call 12
    with_reducible refine HF2.out.mono ?_
    rintro e w3 ⟨rfl, hB3⟩
    have HBR := Lib.hid (fun W (hb : Below w2.heap.size w2 W) => broken_any w.heap.size _ _ _ _ _ _ W (HP2.out.below hb).box)
    rw [HFI.out] at HBR
    go_wp2_with fail
    go_at_call 14
    with_reducible refine (HLV.out _).mono ?_
    rintro e w4 ⟨rfl, hB4⟩
    have hB34 := hB3.trans (hB4.mono hB3.size)
    go_wp2_with fail
    go_at_call 18
    with_reducible refine (HBR.out _ hB34).mono ?_
    rintro e w5 ⟨rfl, hw5⟩
    obtain rfl := hw5.symm
    have ce : ((e1 : Int) == (e1 : Int)) = true := by simp
    go_wp2_with fail
    go_returns
    exact ⟨rfl, HB2.out.trans (hB34.mono HB2.out.size)⟩
end Go.Proofs.YtppgjkjdddanbaaDoor
