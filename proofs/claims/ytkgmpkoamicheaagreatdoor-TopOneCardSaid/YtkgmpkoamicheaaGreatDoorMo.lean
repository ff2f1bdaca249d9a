/- The quick way's answers are the program's: more that makes memory; maps written. No program in it. -/
import Derived.Test.YtkgmpkoamicheaaGreatDoorMn
import Derived.Lib.ConvBytes
import Derived.Laws.BytesArg
namespace Go.Proofs.YtkgmpkoamicheaaGreatDoor.M
section
variable {P : Program} {T : Tab} {base : Nat} {m : Mu} {H : AHeap} {w : World}

theorem R.drew (h : R base m H w) : R base m H w.drew := ⟨fun b B hb => let ⟨l, a, c, d⟩ := h.live b B hb; ⟨l, a, c, d.same rfl⟩, h.inj⟩
theorem xBuildSlice_ok (hT : TabOk P T) (hR : R base m H w) (hb : base ≤ w.heap.size) {id : Nat} (hid : m id = none) {t : TypeId} {n : Nat} {ps : List (Nat × Value)} {ps' : Array (Nat × Value)} {o : Out} {H1 : AHeap}
    (h : xBuildSlice T id H t n ps = some (o, H1)) (hl : ps.length = ps'.toList.length) (hp : ∀ (i : Nat) p, ps[i]? = some p → ∃ v', ps'.toList[i]? = some (p.1, v') ∧ VR m p.2 v') :
    ∃ v, o = .val v ∧ Mem P base m H w (Instr.buildSlice t n ps') v H1 id := by
  unfold xBuildSlice at h
  split at h
  · cases h
  rename_i r hr
  have hu := hT.und hr w
  split at h
  case h_2 => cases h
  rename_i e he
  split at h
  case h_2 => cases h
  rename_i re hre
  have hs := hT.size hre w
  split at h
  case h_2 => cases h
  rename_i z hz
  have hzr := hT.zero hre hz w
  split at h
  case isFalse => cases h
  rename_i hck
  simp only [Bool.and_eq_true, decide_eq_true_eq, beq_iff_eq] at hck
  obtain ⟨⟨hpl, hn⟩, hzl⟩ := hck
  have hzc : VRs m (cellsL z) z.cells.toList := (plainV_VR m hpl).cellsL
  have hzc' : (cellsL z) = z.cells.toList := by cases z <;> rfl
  have hzs : z.cells.size = re.size := by rw [hzc'] at hzl; simpa using hzl
  split at h
  case h_2 => cases h
  rename_i out ho
  unfold sliceTo at h
  split at h
  case h_2 => cases h
  rename_i H' ha
  obtain ⟨rfl, rfl⟩ := Prod.mk.inj (Option.some.inj h)
  unfold anew at ha
  split at ha
  case isFalse => cases ha
  rename_i h1
  obtain rfl := Option.some.inj ha
  -- the zero cells
  let zc : Array Value := if n * re.size = 0 then #[] else z.cells
  have hzrun : ((if n * re.size = 0 then pure #[] else do pure (← zeroValue e).cells : Sem (Array Value))).run P w = .ok zc w := by
    by_cases hz0 : n * re.size = 0
    · simp [hz0, zc]
    · simp [hz0, zc, hzr]
  have hcells : VRs m (repCells n (cellsL z)) ((Array.range (n * re.size)).map (zc[· % zc.size]!)).toList := by
    by_cases hz0 : n * re.size = 0
    · have : repCells n (cellsL z) = [] := List.eq_nil_of_length_eq_zero (by rw [repCells_length, hzl]; exact hz0)
      rw [this, hz0]
      simpa using VRs.nil m
    · have := rep_VRs (z := z.cells) (z' := z.cells) (by rw [← hzc']; rw [hzc'] at hzc ⊢; exact hzc) n
      rw [hzc']
      simp only [zc, hz0, if_false]
      rw [show n * re.size = n * z.cells.size by rw [hzs]]
      exact this
  obtain ⟨out', k1, k2⟩ := fill_ok hcells hl hp ho
  refine ⟨_, rfl, _, w.alloc (.cells out' e), .slice (some ⟨w.heap.size, 0, none⟩) n n, ?_, ?_, new_row hR hb hid k2 (allOne_mem h1)⟩
  · have hbig : ¬ n * re.size > 2 ^ 24 := by omega
    by_cases hz0 : n * re.size = 0
    · simp only [zc, hz0, if_true] at k1
      simp at k1
      simp [Instr.buildSlice, hu, he, hs, hz0, k1, newRow]
    · simp only [zc, hz0, if_false] at k1
      simp [Instr.buildSlice, hu, he, hs, hbig, hz0, hzr, k1, newRow]
  · simpa using VR.sl (n := n) (c := n) (o := 0) (Mu.put_at m id ⟨w.heap.size, 0, none⟩) rfl

theorem wrap_small {n : Int} (h0 : 0 ≤ n) (h : n ≤ 1099511627776) : IntKind.i64.wrap n = n := by
  unfold IntKind.wrap
  simp [IntKind.bits, IntKind.signed]
  omega
theorem xMakeSlice_ok (hT : TabOk P T) (hR : R base m H w) (hb : base ≤ w.heap.size) {id : Nat} (hid : m id = none) {t : TypeId} {x y x' y' : Value} {o : Out} {H1 : AHeap}
    (h : xMakeSlice T id H t (some x) (some y) = some (o, H1)) (hx : VR m x x') (hy : VR m y y') : ∃ v, o = .val v ∧ Mem P base m H w (Instr.makeSlice t x' y') v H1 id := by
  unfold xMakeSlice at h
  split at h
  case h_2 => cases h
  rename_i k1 n k2 c e1 e2
  obtain rfl := Option.some.inj e1
  obtain rfl := Option.some.inj e2
  cases hx; cases hy
  split at h
  case h_2 => cases h
  rename_i r hr
  have hu := hT.und hr w
  split at h
  case h_2 => cases h
  rename_i e he
  split at h
  case h_2 => cases h
  rename_i re hre
  have hs := hT.size hre w
  obtain ⟨info, hi, _, hib, _⟩ := hT.info hre w
  split at h
  case h_2 => cases h
  rename_i z hz
  have hzr := hT.zero hre hz w
  split at h
  case isFalse => cases h
  rename_i hck
  simp only [Bool.and_eq_true, decide_eq_true_eq, beq_iff_eq] at hck
  obtain ⟨⟨⟨⟨⟨⟨⟨hpl, hn0⟩, hnc⟩, hc40⟩, hcs⟩, hcb⟩, hzl⟩, hz1⟩ := hck
  obtain ⟨rfl, rfl⟩ := Prod.mk.inj (Option.some.inj h)
  have hzc : VRs m (cellsL z) z.cells.toList := (plainV_VR m hpl).cellsL
  have hzc' : (cellsL z) = z.cells.toList := by cases z <;> rfl
  have hzs : z.cells.size = re.size := by rw [hzc'] at hzl; simpa using hzl
  have hw1 := wrap_small hn0 (by omega)
  have hw2 := wrap_small (n := c) (by omega) hc40
  let zc : Array Value := if c.toNat * re.size = 0 then #[] else z.cells
  have hzrun : ((if c.toNat * re.size = 0 then pure #[] else do pure (← zeroValue e).cells : Sem (Array Value))).run P w = .ok zc w := by
    by_cases hz0 : c.toNat * re.size = 0
    · simp only [hz0, zc, if_true]; rfl
    · simp only [hz0, zc, if_false]; simp [hzr]
  have hcells : VRs m (repCells c.toNat (cellsL z)) ((Array.range (c.toNat * re.size)).map (zc[· % zc.size]!)).toList := by
    by_cases hz0 : c.toNat * re.size = 0
    · have : repCells c.toNat (cellsL z) = [] := List.eq_nil_of_length_eq_zero (by rw [repCells_length, hzl]; exact hz0)
      rw [this, hz0]
      simpa using VRs.nil m
    · have := rep_VRs (z := z.cells) (z' := z.cells) (by rw [← hzc']; rw [hzc'] at hzc ⊢; exact hzc) c.toNat
      rw [hzc']
      simp only [zc, hz0, if_false]
      rw [show c.toNat * re.size = c.toNat * z.cells.size by rw [hzs]]
      exact this
  have hone : ∀ v ∈ repCells c.toNat (cellsL z), one v = true := by
    have : ∀ n, ∀ v ∈ repCells n (cellsL z), one v = true := by
      intro n
      induction n with
      | zero => simp [repCells]
      | succ n ih =>
        intro v hv
        simp only [repCells, List.mem_append] at hv
        rcases hv with hv | hv
        · exact allOne_mem hz1 v hv
        · exact ih v hv
    exact this _
  have hnew := new_row (e := e) hR hb hid hcells hone
  rw [repCells_length, hzl] at hnew
  have hnew := hnew.retree (t' := zeroTree c.toNat (cellsL z)) (fun i hi => zeroTree_get _ _ i (by rw [hzl]; exact hi))
  refine ⟨_, rfl, _, _, .slice (some ⟨w.heap.size, 0, none⟩) n.toNat c.toNat, ?_, ?_, hnew⟩
  · have hlarge : ∀ q : Int, 0 ≤ q → q ≤ c → ¬ (q < 0 ∨ ((re.bytes : Int) * q > 2 ^ 48)) := fun q h0 h1 => by
      rintro (h2 | h2)
      · omega
      · have h3 : (re.bytes : Int) * q ≤ (re.bytes : Int) * c := Int.mul_le_mul_of_nonneg_left h1 (by omega)
        have h4 : (re.bytes : Int) * c = c * re.bytes := Int.mul_comm _ _
        omega
    have hl1 := hlarge c (by omega) (Int.le_refl _)
    simp only [Instr.makeSlice, Sem.run_bind, hu, he, Result.andThen_ok, asInt, asIntOf, Sem.run_pure, hi, hib, hw1, hw2]
    rw [if_neg]
    · by_cases hz0 : c.toNat * re.size = 0
      · simp [zc, hz0, hs, newRow]
      · simp [zc, hz0, hs, hzr, newRow]
    · simp only [Bool.or_eq_true, decide_eq_true_eq, not_or]
      exact ⟨⟨by simpa using hl1, by omega⟩, by omega⟩
  · simpa using VR.sl (n := n.toNat) (c := c.toNat) (o := 0) (Mu.put_at m id ⟨w.heap.size, 0, none⟩) rfl
end
end Go.Proofs.YtkgmpkoamicheaaGreatDoor.M
