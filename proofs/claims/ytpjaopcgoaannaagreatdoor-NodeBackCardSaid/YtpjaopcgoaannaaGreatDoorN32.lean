/- few: a node with not too much in it. Written by gen_n32.py. -/
import Derived.Test.YtpjaopcgoaannaaGreatDoorN31
namespace Go.Proofs.YtpjaopcgoaannaaGreatDoor
open Go.RowKit Go.Lib
open Hb
theorem SlE.take {α : Type} {enc : α → List Value} {k : Nat} {w : World} {a : Option Addr} {c : Nat} {l : List α} (h : SlE enc k w (.slice a l.length c) l) (m : Nat) (hm : m ≤ l.length) : SlE enc k w (.slice a m c) (l.take m) := by
  obtain ⟨a', c', e, hc, hx⟩ := h
  cases e
  have hl : (l.take m).length = m := by rw [List.length_take]; omega
  refine ⟨a, c, by rw [hl], by omega, ?_⟩
  rcases hx with rfl | ⟨g, off, ha, hg, hx⟩
  · exact .inl (by simp)
  · refine .inr ⟨g, off, ha, hg, fun i hi j hj => ?_⟩
    rw [hx i (by omega) j hj, List.getElem_take]
/-- a row cut at twenty -/
theorem SlE.few {α : Type} {enc : α → List Value} {k : Nat} {w : World} {a : Option Addr} {c : Nat} {l : List α} (h : SlE enc k w (.slice a l.length c) l) :
    (20 < l.length → 20 ≤ c ∧ ∀ W, Below w.heap.size w W → SlE enc k W (.slice a 20 c) (l.take 20)) ∧ (¬ 20 < l.length → ∀ W, Below w.heap.size w W → SlE enc k W (.slice a l.length c) (l.take 20)) := by
  have hc : l.length ≤ c := by obtain ⟨_, _, e, hc, _⟩ := h; cases e; exact hc
  refine ⟨fun hl => ⟨by omega, fun W hW => (h.below hW).take 20 (by omega)⟩, fun hl W hW => ?_⟩
  rw [List.take_of_length_le (by omega)]
  exact h.below hW

set_option maxRecDepth 100000 in
set_option maxHeartbeats 8000000 in
theorem few_any (v : Value) (n : PNode) (w : World) (hv : NodeV w v n) :
    Calls Tryz.prog 4 #[v] w fun e w' => ∃ v', e = .returned v' ∧ NodeV w' v' (fewN n) ∧ Below w.heap.size w w' := by
  obtain ⟨A, S, I, rfl, hA, hS, hI⟩ := hv
  obtain ⟨aA, cA, rfl⟩ := hA.form
  obtain ⟨aS, cS, rfl⟩ := hS.form
  obtain ⟨aI, cI, rfl⟩ := hI.form
  obtain ⟨W0, hW0, hB0, hr1, hr2, hs⟩ := two w 27 27 [.string n.name, .bool n.coll, .int .u8 n.access, .int .i64 n.max, .slice aA n.affs.length cA, .slice aS n.subs.length cS, .slice aI n.items.length cI, .string n.parent] [.string ⟨#[]⟩, .bool false, .int .u8 0, .int .i64 0, .slice none 0 0, .slice none 0 0, .slice none 0 0, .string ⟨#[]⟩]
  have hfA := hA.few
  have hfS := hS.few
  have hfI := hI.few
  have HW := Lib.hid hW0
  have HB := Lib.hid hB0
  have HR := Lib.hid hr1
  have HQ := Lib.hid hr2
  have c0 := hr1.at 0 _ rfl
  have c1 := hr1.at 1 _ rfl
  have c2 := hr1.at 2 _ rfl
  have c3 := hr1.at 3 _ rfl
  have c4 := hr1.at 4 _ rfl
  have c5 := hr1.at 5 _ rfl
  have c6 := hr1.at 6 _ rfl
  have c7 := hr1.at 7 _ rfl
  clear hW0 hB0 hr1 hr2 hs hA hS hI
  have hQF : ∀ (W : World) (vA vS vI : Value), SlE PAff.enc 2 W vA (n.affs.take 20) → SlE PSub.enc 3 W vS (n.subs.take 20) → SlE PItem.enc 3 W vI (n.items.take 20) → NodeV W (.agg #[.string n.name, .bool n.coll, .int .u8 n.access, .int .i64 n.max, vA, vS, vI, .string n.parent]) (fewN n) := fun W vA vS vI h1 h2 h3 => ⟨_, _, _, rfl, h1, h2, h3⟩
  have HQF := Lib.hid hQF
  clear hQF
  generalize n.name = f0 at *
  generalize n.coll = f1 at *
  generalize n.access = f2 at *
  generalize n.max = f3 at *
  generalize n.parent = f7 at *
  go_enter Tryz.func4, Tryz.ntmps4
  go_upto_region 1 with fail
  rw [HW.out]
  clear HW
  by_cases hA : 20 < n.affs.length <;> by_cases hS : 20 < n.subs.length <;> by_cases hI : 20 < n.items.length
  · obtain ⟨bA, hlA⟩ := hfA.1 hA
    have HLA := Lib.hid hlA
    have eA : decide ((20 : Int) < (n.affs.length : Int)) = true := by rw [decide_eq_true_eq]; omega
    clear hlA hfA hA
    obtain ⟨V0, st, hr, hg, _⟩ := run_store_one (P := Tryz.prog) HR.out 23 4 (.slice aA 20 cA) (Tryz.sizeOf23 _) (by simp) rfl rfl
    have HR0 := Lib.hid hr
    have HB0 := Lib.hid (below_gone HB.out hg HB.out.size (Nat.le_refl _))
    have HQ0 := Lib.hid (HQ.out.gone hg (by omega))
    have HT0 := Lib.hid st
    have s0_0 := hr.at 0 _ rfl
    have s0_1 := hr.at 1 _ rfl
    have s0_2 := hr.at 2 _ rfl
    have s0_3 := hr.at 3 _ rfl
    have s0_4 := hr.at 4 _ rfl
    have s0_5 := hr.at 5 _ rfl
    have s0_6 := hr.at 6 _ rfl
    have s0_7 := hr.at 7 _ rfl
    clear st hr hg
    obtain ⟨bS, hlS⟩ := hfS.1 hS
    have HLS := Lib.hid hlS
    have eS : decide ((20 : Int) < (n.subs.length : Int)) = true := by rw [decide_eq_true_eq]; omega
    clear hlS hfS hS
    obtain ⟨V1, st, hr, hg, _⟩ := run_store_one (P := Tryz.prog) HR0.out 24 5 (.slice aS 20 cS) (Tryz.sizeOf24 _) (by simp) rfl rfl
    have HR1 := Lib.hid hr
    have HB1 := Lib.hid (below_gone HB0.out hg HB0.out.size (Nat.le_refl _))
    have HQ1 := Lib.hid (HQ0.out.gone hg (by omega))
    have HT1 := Lib.hid st
    have s1_0 := hr.at 0 _ rfl
    have s1_1 := hr.at 1 _ rfl
    have s1_2 := hr.at 2 _ rfl
    have s1_3 := hr.at 3 _ rfl
    have s1_4 := hr.at 4 _ rfl
    have s1_5 := hr.at 5 _ rfl
    have s1_6 := hr.at 6 _ rfl
    have s1_7 := hr.at 7 _ rfl
    clear st hr hg
    obtain ⟨bI, hlI⟩ := hfI.1 hI
    have HLI := Lib.hid hlI
    have eI : decide ((20 : Int) < (n.items.length : Int)) = true := by rw [decide_eq_true_eq]; omega
    clear hlI hfI hI
    obtain ⟨V2, st, hr, hg, _⟩ := run_store_one (P := Tryz.prog) HR1.out 25 6 (.slice aI 20 cI) (Tryz.sizeOf25 _) (by simp) rfl rfl
    have HR2 := Lib.hid hr
    have HB2 := Lib.hid (below_gone HB1.out hg HB1.out.size (Nat.le_refl _))
    have HQ2 := Lib.hid (HQ1.out.gone hg (by omega))
    have HT2 := Lib.hid st
    have s2_0 := hr.at 0 _ rfl
    have s2_1 := hr.at 1 _ rfl
    have s2_2 := hr.at 2 _ rfl
    have s2_3 := hr.at 3 _ rfl
    have s2_4 := hr.at 4 _ rfl
    have s2_5 := hr.at 5 _ rfl
    have s2_6 := hr.at 6 _ rfl
    have s2_7 := hr.at 7 _ rfl
    clear st hr hg
    obtain ⟨wz, hst, hr, hg, _⟩ := run_store_row (P := Tryz.prog) HQ2.out 27 [.string f0, .bool f1, .int .u8 f2, .int .i64 f3, .slice aA 20 cA, .slice aS 20 cS, .slice aI 20 cI, .string f7] (sizeNode V2) rfl rfl (node_one _ _ _ _ _ _ _ _ rfl rfl rfl)
    have HBz := Lib.hid (below_gone HB2.out hg HB2.out.size (Nat.le_succ _))
    have HST := Lib.hid hst
    have r0 := hr.at 0 _ rfl
    have r1 := hr.at 1 _ rfl
    have r2 := hr.at 2 _ rfl
    have r3 := hr.at 3 _ rfl
    have r4 := hr.at 4 _ rfl
    have r5 := hr.at 5 _ rfl
    have r6 := hr.at 6 _ rfl
    have r7 := hr.at 7 _ rfl
    clear hst hr hg
    go_wp2_with (first
      | (refine wpList_store_run _ rfl 23 _ _ rfl _ _ rfl rfl HT0.out ?_)
      | (refine wpList_store_run _ rfl 24 _ _ rfl _ _ rfl rfl HT1.out ?_)
      | (refine wpList_store_run _ rfl 25 _ _ rfl _ _ rfl rfl HT2.out ?_)
      | (refine wpList_store_run _ rfl 27 _ _ rfl _ _ rfl rfl HST.out ?_))
    refine bodyPost_ret (by simp [results, Tryz.results4, go_sem, r0, r1, r2, r3, r4, r5, r6, r7]; try rfl) rfl ?_
    exact ⟨_, rfl, HQF.out _ _ _ _ (HLA.out _ HBz.out) (HLS.out _ HBz.out) (HLI.out _ HBz.out), HBz.out⟩
  · obtain ⟨bA, hlA⟩ := hfA.1 hA
    have HLA := Lib.hid hlA
    have eA : decide ((20 : Int) < (n.affs.length : Int)) = true := by rw [decide_eq_true_eq]; omega
    clear hlA hfA hA
    obtain ⟨V0, st, hr, hg, _⟩ := run_store_one (P := Tryz.prog) HR.out 23 4 (.slice aA 20 cA) (Tryz.sizeOf23 _) (by simp) rfl rfl
    have HR0 := Lib.hid hr
    have HB0 := Lib.hid (below_gone HB.out hg HB.out.size (Nat.le_refl _))
    have HQ0 := Lib.hid (HQ.out.gone hg (by omega))
    have HT0 := Lib.hid st
    have s0_0 := hr.at 0 _ rfl
    have s0_1 := hr.at 1 _ rfl
    have s0_2 := hr.at 2 _ rfl
    have s0_3 := hr.at 3 _ rfl
    have s0_4 := hr.at 4 _ rfl
    have s0_5 := hr.at 5 _ rfl
    have s0_6 := hr.at 6 _ rfl
    have s0_7 := hr.at 7 _ rfl
    clear st hr hg
    obtain ⟨bS, hlS⟩ := hfS.1 hS
    have HLS := Lib.hid hlS
    have eS : decide ((20 : Int) < (n.subs.length : Int)) = true := by rw [decide_eq_true_eq]; omega
    clear hlS hfS hS
    obtain ⟨V1, st, hr, hg, _⟩ := run_store_one (P := Tryz.prog) HR0.out 24 5 (.slice aS 20 cS) (Tryz.sizeOf24 _) (by simp) rfl rfl
    have HR1 := Lib.hid hr
    have HB1 := Lib.hid (below_gone HB0.out hg HB0.out.size (Nat.le_refl _))
    have HQ1 := Lib.hid (HQ0.out.gone hg (by omega))
    have HT1 := Lib.hid st
    have s1_0 := hr.at 0 _ rfl
    have s1_1 := hr.at 1 _ rfl
    have s1_2 := hr.at 2 _ rfl
    have s1_3 := hr.at 3 _ rfl
    have s1_4 := hr.at 4 _ rfl
    have s1_5 := hr.at 5 _ rfl
    have s1_6 := hr.at 6 _ rfl
    have s1_7 := hr.at 7 _ rfl
    clear st hr hg
    have HLI := Lib.hid (hfI.2 hI)
    have eI : decide ((20 : Int) < (n.items.length : Int)) = false := by rw [decide_eq_false_iff_not]; omega
    clear hfI hI
    obtain ⟨wz, hst, hr, hg, _⟩ := run_store_row (P := Tryz.prog) HQ1.out 27 [.string f0, .bool f1, .int .u8 f2, .int .i64 f3, .slice aA 20 cA, .slice aS 20 cS, .slice aI n.items.length cI, .string f7] (sizeNode V1) rfl rfl (node_one _ _ _ _ _ _ _ _ rfl rfl rfl)
    have HBz := Lib.hid (below_gone HB1.out hg HB1.out.size (Nat.le_succ _))
    have HST := Lib.hid hst
    have r0 := hr.at 0 _ rfl
    have r1 := hr.at 1 _ rfl
    have r2 := hr.at 2 _ rfl
    have r3 := hr.at 3 _ rfl
    have r4 := hr.at 4 _ rfl
    have r5 := hr.at 5 _ rfl
    have r6 := hr.at 6 _ rfl
    have r7 := hr.at 7 _ rfl
    clear hst hr hg
    go_wp2_with (first
      | (refine wpList_store_run _ rfl 23 _ _ rfl _ _ rfl rfl HT0.out ?_)
      | (refine wpList_store_run _ rfl 24 _ _ rfl _ _ rfl rfl HT1.out ?_)
      | (refine wpList_store_run _ rfl 27 _ _ rfl _ _ rfl rfl HST.out ?_))
    refine bodyPost_ret (by simp [results, Tryz.results4, go_sem, r0, r1, r2, r3, r4, r5, r6, r7]; try rfl) rfl ?_
    exact ⟨_, rfl, HQF.out _ _ _ _ (HLA.out _ HBz.out) (HLS.out _ HBz.out) (HLI.out _ HBz.out), HBz.out⟩
  · obtain ⟨bA, hlA⟩ := hfA.1 hA
    have HLA := Lib.hid hlA
    have eA : decide ((20 : Int) < (n.affs.length : Int)) = true := by rw [decide_eq_true_eq]; omega
    clear hlA hfA hA
    obtain ⟨V0, st, hr, hg, _⟩ := run_store_one (P := Tryz.prog) HR.out 23 4 (.slice aA 20 cA) (Tryz.sizeOf23 _) (by simp) rfl rfl
    have HR0 := Lib.hid hr
    have HB0 := Lib.hid (below_gone HB.out hg HB.out.size (Nat.le_refl _))
    have HQ0 := Lib.hid (HQ.out.gone hg (by omega))
    have HT0 := Lib.hid st
    have s0_0 := hr.at 0 _ rfl
    have s0_1 := hr.at 1 _ rfl
    have s0_2 := hr.at 2 _ rfl
    have s0_3 := hr.at 3 _ rfl
    have s0_4 := hr.at 4 _ rfl
    have s0_5 := hr.at 5 _ rfl
    have s0_6 := hr.at 6 _ rfl
    have s0_7 := hr.at 7 _ rfl
    clear st hr hg
    have HLS := Lib.hid (hfS.2 hS)
    have eS : decide ((20 : Int) < (n.subs.length : Int)) = false := by rw [decide_eq_false_iff_not]; omega
    clear hfS hS
    obtain ⟨bI, hlI⟩ := hfI.1 hI
    have HLI := Lib.hid hlI
    have eI : decide ((20 : Int) < (n.items.length : Int)) = true := by rw [decide_eq_true_eq]; omega
    clear hlI hfI hI
    obtain ⟨V2, st, hr, hg, _⟩ := run_store_one (P := Tryz.prog) HR0.out 25 6 (.slice aI 20 cI) (Tryz.sizeOf25 _) (by simp) rfl rfl
    have HR2 := Lib.hid hr
    have HB2 := Lib.hid (below_gone HB0.out hg HB0.out.size (Nat.le_refl _))
    have HQ2 := Lib.hid (HQ0.out.gone hg (by omega))
    have HT2 := Lib.hid st
    have s2_0 := hr.at 0 _ rfl
    have s2_1 := hr.at 1 _ rfl
    have s2_2 := hr.at 2 _ rfl
    have s2_3 := hr.at 3 _ rfl
    have s2_4 := hr.at 4 _ rfl
    have s2_5 := hr.at 5 _ rfl
    have s2_6 := hr.at 6 _ rfl
    have s2_7 := hr.at 7 _ rfl
    clear st hr hg
    obtain ⟨wz, hst, hr, hg, _⟩ := run_store_row (P := Tryz.prog) HQ2.out 27 [.string f0, .bool f1, .int .u8 f2, .int .i64 f3, .slice aA 20 cA, .slice aS n.subs.length cS, .slice aI 20 cI, .string f7] (sizeNode V2) rfl rfl (node_one _ _ _ _ _ _ _ _ rfl rfl rfl)
    have HBz := Lib.hid (below_gone HB2.out hg HB2.out.size (Nat.le_succ _))
    have HST := Lib.hid hst
    have r0 := hr.at 0 _ rfl
    have r1 := hr.at 1 _ rfl
    have r2 := hr.at 2 _ rfl
    have r3 := hr.at 3 _ rfl
    have r4 := hr.at 4 _ rfl
    have r5 := hr.at 5 _ rfl
    have r6 := hr.at 6 _ rfl
    have r7 := hr.at 7 _ rfl
    clear hst hr hg
    go_wp2_with (first
      | (refine wpList_store_run _ rfl 23 _ _ rfl _ _ rfl rfl HT0.out ?_)
      | (refine wpList_store_run _ rfl 25 _ _ rfl _ _ rfl rfl HT2.out ?_)
      | (refine wpList_store_run _ rfl 27 _ _ rfl _ _ rfl rfl HST.out ?_))
    refine bodyPost_ret (by simp [results, Tryz.results4, go_sem, r0, r1, r2, r3, r4, r5, r6, r7]; try rfl) rfl ?_
    exact ⟨_, rfl, HQF.out _ _ _ _ (HLA.out _ HBz.out) (HLS.out _ HBz.out) (HLI.out _ HBz.out), HBz.out⟩
  · obtain ⟨bA, hlA⟩ := hfA.1 hA
    have HLA := Lib.hid hlA
    have eA : decide ((20 : Int) < (n.affs.length : Int)) = true := by rw [decide_eq_true_eq]; omega
    clear hlA hfA hA
    obtain ⟨V0, st, hr, hg, _⟩ := run_store_one (P := Tryz.prog) HR.out 23 4 (.slice aA 20 cA) (Tryz.sizeOf23 _) (by simp) rfl rfl
    have HR0 := Lib.hid hr
    have HB0 := Lib.hid (below_gone HB.out hg HB.out.size (Nat.le_refl _))
    have HQ0 := Lib.hid (HQ.out.gone hg (by omega))
    have HT0 := Lib.hid st
    have s0_0 := hr.at 0 _ rfl
    have s0_1 := hr.at 1 _ rfl
    have s0_2 := hr.at 2 _ rfl
    have s0_3 := hr.at 3 _ rfl
    have s0_4 := hr.at 4 _ rfl
    have s0_5 := hr.at 5 _ rfl
    have s0_6 := hr.at 6 _ rfl
    have s0_7 := hr.at 7 _ rfl
    clear st hr hg
    have HLS := Lib.hid (hfS.2 hS)
    have eS : decide ((20 : Int) < (n.subs.length : Int)) = false := by rw [decide_eq_false_iff_not]; omega
    clear hfS hS
    have HLI := Lib.hid (hfI.2 hI)
    have eI : decide ((20 : Int) < (n.items.length : Int)) = false := by rw [decide_eq_false_iff_not]; omega
    clear hfI hI
    obtain ⟨wz, hst, hr, hg, _⟩ := run_store_row (P := Tryz.prog) HQ0.out 27 [.string f0, .bool f1, .int .u8 f2, .int .i64 f3, .slice aA 20 cA, .slice aS n.subs.length cS, .slice aI n.items.length cI, .string f7] (sizeNode V0) rfl rfl (node_one _ _ _ _ _ _ _ _ rfl rfl rfl)
    have HBz := Lib.hid (below_gone HB0.out hg HB0.out.size (Nat.le_succ _))
    have HST := Lib.hid hst
    have r0 := hr.at 0 _ rfl
    have r1 := hr.at 1 _ rfl
    have r2 := hr.at 2 _ rfl
    have r3 := hr.at 3 _ rfl
    have r4 := hr.at 4 _ rfl
    have r5 := hr.at 5 _ rfl
    have r6 := hr.at 6 _ rfl
    have r7 := hr.at 7 _ rfl
    clear hst hr hg
    go_wp2_with (first
      | (refine wpList_store_run _ rfl 23 _ _ rfl _ _ rfl rfl HT0.out ?_)
      | (refine wpList_store_run _ rfl 27 _ _ rfl _ _ rfl rfl HST.out ?_))
    refine bodyPost_ret (by simp [results, Tryz.results4, go_sem, r0, r1, r2, r3, r4, r5, r6, r7]; try rfl) rfl ?_
    exact ⟨_, rfl, HQF.out _ _ _ _ (HLA.out _ HBz.out) (HLS.out _ HBz.out) (HLI.out _ HBz.out), HBz.out⟩
  · have HLA := Lib.hid (hfA.2 hA)
    have eA : decide ((20 : Int) < (n.affs.length : Int)) = false := by rw [decide_eq_false_iff_not]; omega
    clear hfA hA
    obtain ⟨bS, hlS⟩ := hfS.1 hS
    have HLS := Lib.hid hlS
    have eS : decide ((20 : Int) < (n.subs.length : Int)) = true := by rw [decide_eq_true_eq]; omega
    clear hlS hfS hS
    obtain ⟨V1, st, hr, hg, _⟩ := run_store_one (P := Tryz.prog) HR.out 24 5 (.slice aS 20 cS) (Tryz.sizeOf24 _) (by simp) rfl rfl
    have HR1 := Lib.hid hr
    have HB1 := Lib.hid (below_gone HB.out hg HB.out.size (Nat.le_refl _))
    have HQ1 := Lib.hid (HQ.out.gone hg (by omega))
    have HT1 := Lib.hid st
    have s1_0 := hr.at 0 _ rfl
    have s1_1 := hr.at 1 _ rfl
    have s1_2 := hr.at 2 _ rfl
    have s1_3 := hr.at 3 _ rfl
    have s1_4 := hr.at 4 _ rfl
    have s1_5 := hr.at 5 _ rfl
    have s1_6 := hr.at 6 _ rfl
    have s1_7 := hr.at 7 _ rfl
    clear st hr hg
    obtain ⟨bI, hlI⟩ := hfI.1 hI
    have HLI := Lib.hid hlI
    have eI : decide ((20 : Int) < (n.items.length : Int)) = true := by rw [decide_eq_true_eq]; omega
    clear hlI hfI hI
    obtain ⟨V2, st, hr, hg, _⟩ := run_store_one (P := Tryz.prog) HR1.out 25 6 (.slice aI 20 cI) (Tryz.sizeOf25 _) (by simp) rfl rfl
    have HR2 := Lib.hid hr
    have HB2 := Lib.hid (below_gone HB1.out hg HB1.out.size (Nat.le_refl _))
    have HQ2 := Lib.hid (HQ1.out.gone hg (by omega))
    have HT2 := Lib.hid st
    have s2_0 := hr.at 0 _ rfl
    have s2_1 := hr.at 1 _ rfl
    have s2_2 := hr.at 2 _ rfl
    have s2_3 := hr.at 3 _ rfl
    have s2_4 := hr.at 4 _ rfl
    have s2_5 := hr.at 5 _ rfl
    have s2_6 := hr.at 6 _ rfl
    have s2_7 := hr.at 7 _ rfl
    clear st hr hg
    obtain ⟨wz, hst, hr, hg, _⟩ := run_store_row (P := Tryz.prog) HQ2.out 27 [.string f0, .bool f1, .int .u8 f2, .int .i64 f3, .slice aA n.affs.length cA, .slice aS 20 cS, .slice aI 20 cI, .string f7] (sizeNode V2) rfl rfl (node_one _ _ _ _ _ _ _ _ rfl rfl rfl)
    have HBz := Lib.hid (below_gone HB2.out hg HB2.out.size (Nat.le_succ _))
    have HST := Lib.hid hst
    have r0 := hr.at 0 _ rfl
    have r1 := hr.at 1 _ rfl
    have r2 := hr.at 2 _ rfl
    have r3 := hr.at 3 _ rfl
    have r4 := hr.at 4 _ rfl
    have r5 := hr.at 5 _ rfl
    have r6 := hr.at 6 _ rfl
    have r7 := hr.at 7 _ rfl
    clear hst hr hg
    go_wp2_with (first
      | (refine wpList_store_run _ rfl 24 _ _ rfl _ _ rfl rfl HT1.out ?_)
      | (refine wpList_store_run _ rfl 25 _ _ rfl _ _ rfl rfl HT2.out ?_)
      | (refine wpList_store_run _ rfl 27 _ _ rfl _ _ rfl rfl HST.out ?_))
    refine bodyPost_ret (by simp [results, Tryz.results4, go_sem, r0, r1, r2, r3, r4, r5, r6, r7]; try rfl) rfl ?_
    exact ⟨_, rfl, HQF.out _ _ _ _ (HLA.out _ HBz.out) (HLS.out _ HBz.out) (HLI.out _ HBz.out), HBz.out⟩
  · have HLA := Lib.hid (hfA.2 hA)
    have eA : decide ((20 : Int) < (n.affs.length : Int)) = false := by rw [decide_eq_false_iff_not]; omega
    clear hfA hA
    obtain ⟨bS, hlS⟩ := hfS.1 hS
    have HLS := Lib.hid hlS
    have eS : decide ((20 : Int) < (n.subs.length : Int)) = true := by rw [decide_eq_true_eq]; omega
    clear hlS hfS hS
    obtain ⟨V1, st, hr, hg, _⟩ := run_store_one (P := Tryz.prog) HR.out 24 5 (.slice aS 20 cS) (Tryz.sizeOf24 _) (by simp) rfl rfl
    have HR1 := Lib.hid hr
    have HB1 := Lib.hid (below_gone HB.out hg HB.out.size (Nat.le_refl _))
    have HQ1 := Lib.hid (HQ.out.gone hg (by omega))
    have HT1 := Lib.hid st
    have s1_0 := hr.at 0 _ rfl
    have s1_1 := hr.at 1 _ rfl
    have s1_2 := hr.at 2 _ rfl
    have s1_3 := hr.at 3 _ rfl
    have s1_4 := hr.at 4 _ rfl
    have s1_5 := hr.at 5 _ rfl
    have s1_6 := hr.at 6 _ rfl
    have s1_7 := hr.at 7 _ rfl
    clear st hr hg
    have HLI := Lib.hid (hfI.2 hI)
    have eI : decide ((20 : Int) < (n.items.length : Int)) = false := by rw [decide_eq_false_iff_not]; omega
    clear hfI hI
    obtain ⟨wz, hst, hr, hg, _⟩ := run_store_row (P := Tryz.prog) HQ1.out 27 [.string f0, .bool f1, .int .u8 f2, .int .i64 f3, .slice aA n.affs.length cA, .slice aS 20 cS, .slice aI n.items.length cI, .string f7] (sizeNode V1) rfl rfl (node_one _ _ _ _ _ _ _ _ rfl rfl rfl)
    have HBz := Lib.hid (below_gone HB1.out hg HB1.out.size (Nat.le_succ _))
    have HST := Lib.hid hst
    have r0 := hr.at 0 _ rfl
    have r1 := hr.at 1 _ rfl
    have r2 := hr.at 2 _ rfl
    have r3 := hr.at 3 _ rfl
    have r4 := hr.at 4 _ rfl
    have r5 := hr.at 5 _ rfl
    have r6 := hr.at 6 _ rfl
    have r7 := hr.at 7 _ rfl
    clear hst hr hg
    go_wp2_with (first
      | (refine wpList_store_run _ rfl 24 _ _ rfl _ _ rfl rfl HT1.out ?_)
      | (refine wpList_store_run _ rfl 27 _ _ rfl _ _ rfl rfl HST.out ?_))
    refine bodyPost_ret (by simp [results, Tryz.results4, go_sem, r0, r1, r2, r3, r4, r5, r6, r7]; try rfl) rfl ?_
    exact ⟨_, rfl, HQF.out _ _ _ _ (HLA.out _ HBz.out) (HLS.out _ HBz.out) (HLI.out _ HBz.out), HBz.out⟩
  · have HLA := Lib.hid (hfA.2 hA)
    have eA : decide ((20 : Int) < (n.affs.length : Int)) = false := by rw [decide_eq_false_iff_not]; omega
    clear hfA hA
    have HLS := Lib.hid (hfS.2 hS)
    have eS : decide ((20 : Int) < (n.subs.length : Int)) = false := by rw [decide_eq_false_iff_not]; omega
    clear hfS hS
    obtain ⟨bI, hlI⟩ := hfI.1 hI
    have HLI := Lib.hid hlI
    have eI : decide ((20 : Int) < (n.items.length : Int)) = true := by rw [decide_eq_true_eq]; omega
    clear hlI hfI hI
    obtain ⟨V2, st, hr, hg, _⟩ := run_store_one (P := Tryz.prog) HR.out 25 6 (.slice aI 20 cI) (Tryz.sizeOf25 _) (by simp) rfl rfl
    have HR2 := Lib.hid hr
    have HB2 := Lib.hid (below_gone HB.out hg HB.out.size (Nat.le_refl _))
    have HQ2 := Lib.hid (HQ.out.gone hg (by omega))
    have HT2 := Lib.hid st
    have s2_0 := hr.at 0 _ rfl
    have s2_1 := hr.at 1 _ rfl
    have s2_2 := hr.at 2 _ rfl
    have s2_3 := hr.at 3 _ rfl
    have s2_4 := hr.at 4 _ rfl
    have s2_5 := hr.at 5 _ rfl
    have s2_6 := hr.at 6 _ rfl
    have s2_7 := hr.at 7 _ rfl
    clear st hr hg
    obtain ⟨wz, hst, hr, hg, _⟩ := run_store_row (P := Tryz.prog) HQ2.out 27 [.string f0, .bool f1, .int .u8 f2, .int .i64 f3, .slice aA n.affs.length cA, .slice aS n.subs.length cS, .slice aI 20 cI, .string f7] (sizeNode V2) rfl rfl (node_one _ _ _ _ _ _ _ _ rfl rfl rfl)
    have HBz := Lib.hid (below_gone HB2.out hg HB2.out.size (Nat.le_succ _))
    have HST := Lib.hid hst
    have r0 := hr.at 0 _ rfl
    have r1 := hr.at 1 _ rfl
    have r2 := hr.at 2 _ rfl
    have r3 := hr.at 3 _ rfl
    have r4 := hr.at 4 _ rfl
    have r5 := hr.at 5 _ rfl
    have r6 := hr.at 6 _ rfl
    have r7 := hr.at 7 _ rfl
    clear hst hr hg
    go_wp2_with (first
      | (refine wpList_store_run _ rfl 25 _ _ rfl _ _ rfl rfl HT2.out ?_)
      | (refine wpList_store_run _ rfl 27 _ _ rfl _ _ rfl rfl HST.out ?_))
    refine bodyPost_ret (by simp [results, Tryz.results4, go_sem, r0, r1, r2, r3, r4, r5, r6, r7]; try rfl) rfl ?_
    exact ⟨_, rfl, HQF.out _ _ _ _ (HLA.out _ HBz.out) (HLS.out _ HBz.out) (HLI.out _ HBz.out), HBz.out⟩
  · have HLA := Lib.hid (hfA.2 hA)
    have eA : decide ((20 : Int) < (n.affs.length : Int)) = false := by rw [decide_eq_false_iff_not]; omega
    clear hfA hA
    have HLS := Lib.hid (hfS.2 hS)
    have eS : decide ((20 : Int) < (n.subs.length : Int)) = false := by rw [decide_eq_false_iff_not]; omega
    clear hfS hS
    have HLI := Lib.hid (hfI.2 hI)
    have eI : decide ((20 : Int) < (n.items.length : Int)) = false := by rw [decide_eq_false_iff_not]; omega
    clear hfI hI
    obtain ⟨wz, hst, hr, hg, _⟩ := run_store_row (P := Tryz.prog) HQ.out 27 [.string f0, .bool f1, .int .u8 f2, .int .i64 f3, .slice aA n.affs.length cA, .slice aS n.subs.length cS, .slice aI n.items.length cI, .string f7] (sizeNode W0) rfl rfl (node_one _ _ _ _ _ _ _ _ rfl rfl rfl)
    have HBz := Lib.hid (below_gone HB.out hg HB.out.size (Nat.le_succ _))
    have HST := Lib.hid hst
    have r0 := hr.at 0 _ rfl
    have r1 := hr.at 1 _ rfl
    have r2 := hr.at 2 _ rfl
    have r3 := hr.at 3 _ rfl
    have r4 := hr.at 4 _ rfl
    have r5 := hr.at 5 _ rfl
    have r6 := hr.at 6 _ rfl
    have r7 := hr.at 7 _ rfl
    clear hst hr hg
    go_wp2_with (first
      | (refine wpList_store_run _ rfl 27 _ _ rfl _ _ rfl rfl HST.out ?_))
    refine bodyPost_ret (by simp [results, Tryz.results4, go_sem, r0, r1, r2, r3, r4, r5, r6, r7]; try rfl) rfl ?_
    exact ⟨_, rfl, HQF.out _ _ _ _ (HLA.out _ HBz.out) (HLS.out _ HBz.out) (HLI.out _ HBz.out), HBz.out⟩
end Go.Proofs.YtpjaopcgoaannaaGreatDoor
