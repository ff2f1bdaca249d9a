/- node.Configure, node.Publish. Written by gen_n20.py. -/
import Derived.Test.YtpjaopcgoaannaaN19
namespace Go.Proofs.Ytpjaopcgoaannaa
open Go.RowKit Go.Lib
open Hb

set_option maxRecDepth 100000 in
set_option maxHeartbeats 8000000 in
theorem configure_any (v : Value) (n : PNode) (by_ : ByteArray) (ac most : Int) (w : World) (hv : NodeV w v n) (hbd : Bd n) :
    Calls Try.prog 8 #[v, .string by_, .int .u8 ac, .int .i64 most] w fun e w' => ∃ v', e = .returned (.tuple #[v', .int .i64 (configureN pr n by_ ac most).2]) ∧ NodeV w' v' (configureN pr n by_ ac most).1 ∧ Below w.heap.size w w' := by
  have hv0 := hv
  obtain ⟨A, S, I, rfl, hA, hS, hI⟩ := hv
  obtain ⟨aA, cA, rfl⟩ := hA.form
  obtain ⟨aS, cS, rfl⟩ := hS.form
  obtain ⟨aI, cI, rfl⟩ := hI.form
  obtain ⟨W0, hW0, hB0, hr1, hr2, hs⟩ := two w 28 28 [.string n.name, .bool n.coll, .int .u8 n.access, .int .i64 n.max, .slice aA n.affs.length cA, .slice aS n.subs.length cS, .slice aI n.items.length cI, .string n.parent] [.string ⟨#[]⟩, .bool false, .int .u8 0, .int .i64 0, .slice none 0 0, .slice none 0 0, .slice none 0 0, .string ⟨#[]⟩]
  have HOw : Hid (Calls Try.prog 19 #[.agg #[.string n.name, .bool n.coll, .int .u8 n.access, .int .i64 n.max, .slice aA n.affs.length cA, .slice aS n.subs.length cS, .slice aI n.items.length cI, .string n.parent], .string by_] W0 fun e w' => e = .returned (.int .i64 (ownerN pr n by_)) ∧ Below W0.heap.size W0 w') := owner_any _ n by_ W0 (hv0.below hB0) hbd
  have HOn : Hid (∀ W, Below w.heap.size w W → Calls Try.prog 21 #[.agg #[.string n.name, .bool n.coll, .int .u8 n.access, .int .i64 n.max, .slice aA n.affs.length cA, .slice aS n.subs.length cS, .slice aI n.items.length cI, .string n.parent]] W fun e w' => ∃ v', e = .returned v' ∧ NodeO w' W.heap.size v' n ∧ Below W.heap.size W w') := fun W hW => own_any _ n W (hv0.below hW) (by have := hbd.affs; omega) (by have := hbd.subs; omega) (by have := hbd.items; omega)
  have c0 := hr1.at 0 _ rfl
  have c1 := hr1.at 1 _ rfl
  have c2 := hr1.at 2 _ rfl
  have c3 := hr1.at 3 _ rfl
  have c4 := hr1.at 4 _ rfl
  have c5 := hr1.at 5 _ rfl
  have c6 := hr1.at 6 _ rfl
  have c7 := hr1.at 7 _ rfl
  have HW := Lib.hid hW0
  have HB := Lib.hid hB0
  have HR := Lib.hid hr1
  have HR2 := Lib.hid hr2
  have HD := Lib.hid hbd
  have mixed : Try.prog.follows .mixedOrders = true := by kernel_rfl
  clear hW0 hB0 hr1 hr2 hs hv0 hA hS hI hbd
  go_enter Try.func8, Try.ntmps8
  go_upto_region 1 with fail
  rw [HW.out]
  clear HW
  go_wp2_with fail
  (with_reducible refine HOw.out.mono ?_)
  rintro e w1 ⟨rfl, hB1⟩
  have HB1 := Lib.hid (HB.out.trans (hB1.mono HB.out.size))
  have HR1 := Lib.hid (HR.out.below hB1)
  have HR21 := Lib.hid (HR2.out.below hB1)
  have d0 := HR1.out.at 0 _ rfl
  have d1 := HR1.out.at 1 _ rfl
  have d2 := HR1.out.at 2 _ rfl
  have d3 := HR1.out.at 3 _ rfl
  have d4 := HR1.out.at 4 _ rfl
  have d5 := HR1.out.at 5 _ rfl
  have d6 := HR1.out.at 6 _ rfl
  have d7 := HR1.out.at 7 _ rfl
  clear hB1 HOw HR HR2 HB
  by_cases ho : ownerN pr n by_ = 0
  · have HC0 : Hid (configureN pr n by_ ac most = if decide (2 < ac) || decide (most < 0) || decide (8 < most) || decide (0 < most) && n.coll then (noNode, 1) else ({ n with access := ac, max := most, items := newestL n.items most }, 0)) := by show _ = _; unfold configureN; rw [if_neg (by rw [ho]; decide)]
    rw [ho]
    clear ho
    have hcond : (decide (2 < ac) || decide (most < 0) || decide (8 < most) || decide (0 < most) && n.coll) = true ∨ (2 < ac → False) ∧ ¬ most < 0 ∧ ¬ 8 < most ∧ (0 < most → n.coll = false) := by
      by_cases h1 : 2 < ac
      · left; simp [h1]
      by_cases h2 : most < 0
      · left; simp [h2]
      by_cases h3 : 8 < most
      · left; simp [h3]
      by_cases h4 : 0 < most
      · cases hcol : n.coll with
        | true => left; simp [h4]
        | false => right; exact ⟨h1, h2, h3, fun _ => rfl⟩
      · right; exact ⟨h1, h2, h3, fun q => absurd q h4⟩
    rcases hcond with hbad | ⟨h1, h2, h3, h4⟩
    · have HC : Hid (configureN pr n by_ ac most = (noNode, 1)) := by show _ = _; rw [HC0.out, if_pos hbad]
      have hcase : (2 < ac) ∨ (¬ 2 < ac ∧ most < 0) ∨ (¬ 2 < ac ∧ ¬ most < 0 ∧ 8 < most) ∨ (¬ 2 < ac ∧ ¬ most < 0 ∧ ¬ 8 < most ∧ 0 < most ∧ n.coll = true) := by
        simp only [Bool.or_eq_true, Bool.and_eq_true, decide_eq_true_eq] at hbad
        by_cases q1 : 2 < ac
        · exact .inl q1
        by_cases q2 : most < 0
        · exact .inr (.inl ⟨q1, q2⟩)
        by_cases q3 : 8 < most
        · exact .inr (.inr (.inl ⟨q1, q2, q3⟩))
        rcases hbad with ((h | h) | h) | h
        · exact absurd h q1
        · exact absurd h q2
        · exact absurd h q3
        · exact .inr (.inr (.inr ⟨q1, q2, q3, h.1, h.2⟩))
      clear HC0 hbad
      rcases hcase with q1 | ⟨q1, q2⟩ | ⟨q1, q2, q3⟩ | ⟨q1, q2, q3, q4, q5⟩
      · have e1 : decide (2 < ac) = true := decide_eq_true q1
        go_wp2_with fail
        (with_reducible refine (refused_any 1 w1).mono ?_)
        rintro e wr ⟨vr, rfl, hvr, hBr⟩
        obtain ⟨Ar, Sr, Ir, rfl, hAr, hSr, hIr⟩ := hvr
        have HVr := Lib.hid (And.intro hAr (And.intro hSr hIr))
        have HBr := Lib.hid (HB1.out.trans (hBr.mono HB1.out.size))
        obtain ⟨wq, hst, hrq, hgq, hsq⟩ := run_store_row (P := Try.prog) (HR21.out.below hBr) 28 [.string noNode.name, .bool noNode.coll, .int .u8 noNode.access, .int .i64 noNode.max, Ar, Sr, Ir, .string noNode.parent] (sizeNode wr) rfl rfl (node_one _ _ _ _ _ _ _ _ hAr.one hSr.one hIr.one)
        have HGq := Lib.hid hgq
        have HST := Lib.hid hst
        have r0 := hrq.at 0 _ rfl
        have r1 := hrq.at 1 _ rfl
        have r2 := hrq.at 2 _ rfl
        have r3 := hrq.at 3 _ rfl
        have r4 := hrq.at 4 _ rfl
        have r5 := hrq.at 5 _ rfl
        have r6 := hrq.at 6 _ rfl
        have r7 := hrq.at 7 _ rfl
        clear hst hrq hgq hsq hAr hSr hIr hBr
        go_wp2_with (refine wpList_store_run _ rfl 28 _ _ rfl _ _ rfl rfl HST.out ?_)
        refine bodyPost_ret (by simp [results, Try.results8, go_sem, r0, r1, r2, r3, r4, r5, r6, r7]; try rfl) rfl ?_
        exact ⟨_, by rw [HC.out], by rw [HC.out]; exact ⟨Ar, Sr, Ir, rfl, HVr.out.1.empty, HVr.out.2.1.empty, HVr.out.2.2.empty⟩, below_gone HBr.out HGq.out HBr.out.size (Nat.le_succ _)⟩
      · have e1 : decide (2 < ac) = false := decide_eq_false q1
        have e2 : decide (most < 0) = true := decide_eq_true q2
        go_wp2_with fail
        (with_reducible refine (refused_any 1 w1).mono ?_)
        rintro e wr ⟨vr, rfl, hvr, hBr⟩
        obtain ⟨Ar, Sr, Ir, rfl, hAr, hSr, hIr⟩ := hvr
        have HVr := Lib.hid (And.intro hAr (And.intro hSr hIr))
        have HBr := Lib.hid (HB1.out.trans (hBr.mono HB1.out.size))
        obtain ⟨wq, hst, hrq, hgq, hsq⟩ := run_store_row (P := Try.prog) (HR21.out.below hBr) 28 [.string noNode.name, .bool noNode.coll, .int .u8 noNode.access, .int .i64 noNode.max, Ar, Sr, Ir, .string noNode.parent] (sizeNode wr) rfl rfl (node_one _ _ _ _ _ _ _ _ hAr.one hSr.one hIr.one)
        have HGq := Lib.hid hgq
        have HST := Lib.hid hst
        have r0 := hrq.at 0 _ rfl
        have r1 := hrq.at 1 _ rfl
        have r2 := hrq.at 2 _ rfl
        have r3 := hrq.at 3 _ rfl
        have r4 := hrq.at 4 _ rfl
        have r5 := hrq.at 5 _ rfl
        have r6 := hrq.at 6 _ rfl
        have r7 := hrq.at 7 _ rfl
        clear hst hrq hgq hsq hAr hSr hIr hBr
        go_wp2_with (refine wpList_store_run _ rfl 28 _ _ rfl _ _ rfl rfl HST.out ?_)
        refine bodyPost_ret (by simp [results, Try.results8, go_sem, r0, r1, r2, r3, r4, r5, r6, r7]; try rfl) rfl ?_
        exact ⟨_, by rw [HC.out], by rw [HC.out]; exact ⟨Ar, Sr, Ir, rfl, HVr.out.1.empty, HVr.out.2.1.empty, HVr.out.2.2.empty⟩, below_gone HBr.out HGq.out HBr.out.size (Nat.le_succ _)⟩
      · have e1 : decide (2 < ac) = false := decide_eq_false q1
        have e2 : decide (most < 0) = false := decide_eq_false q2
        have e3 : decide (8 < most) = true := decide_eq_true q3
        go_wp2_with fail
        (with_reducible refine (refused_any 1 w1).mono ?_)
        rintro e wr ⟨vr, rfl, hvr, hBr⟩
        obtain ⟨Ar, Sr, Ir, rfl, hAr, hSr, hIr⟩ := hvr
        have HVr := Lib.hid (And.intro hAr (And.intro hSr hIr))
        have HBr := Lib.hid (HB1.out.trans (hBr.mono HB1.out.size))
        obtain ⟨wq, hst, hrq, hgq, hsq⟩ := run_store_row (P := Try.prog) (HR21.out.below hBr) 28 [.string noNode.name, .bool noNode.coll, .int .u8 noNode.access, .int .i64 noNode.max, Ar, Sr, Ir, .string noNode.parent] (sizeNode wr) rfl rfl (node_one _ _ _ _ _ _ _ _ hAr.one hSr.one hIr.one)
        have HGq := Lib.hid hgq
        have HST := Lib.hid hst
        have r0 := hrq.at 0 _ rfl
        have r1 := hrq.at 1 _ rfl
        have r2 := hrq.at 2 _ rfl
        have r3 := hrq.at 3 _ rfl
        have r4 := hrq.at 4 _ rfl
        have r5 := hrq.at 5 _ rfl
        have r6 := hrq.at 6 _ rfl
        have r7 := hrq.at 7 _ rfl
        clear hst hrq hgq hsq hAr hSr hIr hBr
        go_wp2_with (refine wpList_store_run _ rfl 28 _ _ rfl _ _ rfl rfl HST.out ?_)
        refine bodyPost_ret (by simp [results, Try.results8, go_sem, r0, r1, r2, r3, r4, r5, r6, r7]; try rfl) rfl ?_
        exact ⟨_, by rw [HC.out], by rw [HC.out]; exact ⟨Ar, Sr, Ir, rfl, HVr.out.1.empty, HVr.out.2.1.empty, HVr.out.2.2.empty⟩, below_gone HBr.out HGq.out HBr.out.size (Nat.le_succ _)⟩
      · have e1 : decide (2 < ac) = false := decide_eq_false q1
        have e2 : decide (most < 0) = false := decide_eq_false q2
        have e3 : decide (8 < most) = false := decide_eq_false q3
        have e4 : decide (0 < most) = true := decide_eq_true q4
        go_upto_region 5 with fail
        clear q5 q4 q3 q2 q1
        go_wp2_with fail
        (with_reducible refine (refused_any 1 w1).mono ?_)
        rintro e wr ⟨vr, rfl, hvr, hBr⟩
        obtain ⟨Ar, Sr, Ir, rfl, hAr, hSr, hIr⟩ := hvr
        have HVr := Lib.hid (And.intro hAr (And.intro hSr hIr))
        have HBr := Lib.hid (HB1.out.trans (hBr.mono HB1.out.size))
        obtain ⟨wq, hst, hrq, hgq, hsq⟩ := run_store_row (P := Try.prog) (HR21.out.below hBr) 28 [.string noNode.name, .bool noNode.coll, .int .u8 noNode.access, .int .i64 noNode.max, Ar, Sr, Ir, .string noNode.parent] (sizeNode wr) rfl rfl (node_one _ _ _ _ _ _ _ _ hAr.one hSr.one hIr.one)
        have HGq := Lib.hid hgq
        have HST := Lib.hid hst
        have r0 := hrq.at 0 _ rfl
        have r1 := hrq.at 1 _ rfl
        have r2 := hrq.at 2 _ rfl
        have r3 := hrq.at 3 _ rfl
        have r4 := hrq.at 4 _ rfl
        have r5 := hrq.at 5 _ rfl
        have r6 := hrq.at 6 _ rfl
        have r7 := hrq.at 7 _ rfl
        clear hst hrq hgq hsq hAr hSr hIr hBr
        go_wp2_with (refine wpList_store_run _ rfl 28 _ _ rfl _ _ rfl rfl HST.out ?_)
        refine bodyPost_ret (by simp [results, Try.results8, go_sem, r0, r1, r2, r3, r4, r5, r6, r7]; try rfl) rfl ?_
        exact ⟨_, by rw [HC.out], by rw [HC.out]; exact ⟨Ar, Sr, Ir, rfl, HVr.out.1.empty, HVr.out.2.1.empty, HVr.out.2.2.empty⟩, below_gone HBr.out HGq.out HBr.out.size (Nat.le_succ _)⟩
    · have HC : Hid (configureN pr n by_ ac most = ({ n with access := ac, max := most, items := newestL n.items most }, 0)) := by
        show _ = _
        rw [HC0.out, if_neg]
        simp only [Bool.or_eq_true, Bool.and_eq_true, decide_eq_true_eq, not_or, not_and, Bool.not_eq_true]
        exact ⟨⟨⟨h1, h2⟩, h3⟩, h4⟩
      clear HC0
      have e1 : decide (2 < ac) = false := decide_eq_false h1
      have e2 : decide (most < 0) = false := decide_eq_false h2
      have e3 : decide (8 < most) = false := decide_eq_false h3
      have hmm : 0 ≤ most ∧ most ≤ 1000 := by omega
      have HMM := Lib.hid hmm
      have hil : n.items.length ≤ 1001 := by have := HD.out.items; omega
      have HIL := Lib.hid hil
      clear hmm hil h2 h3
      have hfin : (0 < most ∧ n.coll = false) ∨ ¬ 0 < most := by
        by_cases q : 0 < most
        · exact .inl ⟨q, h4 q⟩
        · exact .inr q
      clear h1 h4
      rcases hfin with ⟨hf1, hf2⟩ | hf1
      · have e4 : decide (0 < most) = true := decide_eq_true hf1
        go_upto_region 6 with fail
        clear hf2 hf1 e1 e2 e3 e4
        go_wp2_with fail
        (with_reducible refine (HOn.out w1 HB1.out).mono ?_)
        rintro e w2 ⟨v2, rfl, hv2, hB2⟩
        obtain ⟨A2, S2, I2, rfl, hA2, hS2, hI2⟩ := hv2
        have HB2 := Lib.hid (HB1.out.trans (hB2.mono HB1.out.size))
        have HRb := Lib.hid (HR1.out.below hB2)
        have HRr := Lib.hid (HR21.out.below hB2)
        have hA2 := hA2.mono HB1.out.size
        have hS2 := hS2.mono HB1.out.size
        have hI2 := hI2.mono HB1.out.size
        obtain ⟨qA, kA, rfl⟩ := row_slice hA2
        obtain ⟨qS, kS, rfl⟩ := row_slice hS2
        obtain ⟨qI, kI, rfl⟩ := row_slice hI2
        have nAb := hA2.ne HRb.out (by decide)
        have nSb := hS2.ne HRb.out (by decide)
        have nIb := hI2.ne HRb.out (by decide)
        have nAr := hA2.ne HRr.out (by decide)
        have nSr := hS2.ne HRr.out (by decide)
        have nIr := hI2.ne HRr.out (by decide)
        obtain ⟨w3, hst3, hr3, hg3, hs3⟩ := run_store_row (P := Try.prog) HRb.out 28 [.string n.name, .bool n.coll, .int .u8 n.access, .int .i64 n.max, .slice qA n.affs.length kA, .slice qS n.subs.length kS, .slice qI n.items.length kI, .string n.parent] (sizeNode w2) rfl rfl (node_one _ _ _ _ _ _ _ _ rfl rfl rfl)
        have hb3 : w.heap.size ≤ w2.heap.size := HB2.out.size
        have HB3 := Lib.hid (below_gone HB2.out hg3 HB2.out.size (Nat.le_refl _))
        have HA3 := Lib.hid (hA2.gone hg3 nAb)
        have HS3 := Lib.hid (hS2.gone hg3 nSb)
        have HI3 := Lib.hid (hI2.gone hg3 nIb)
        have HRr3 := Lib.hid (HRr.out.gone hg3 (by omega))
        have HRb3 := Lib.hid hr3
        have HST3 := Lib.hid hst3
        have s3 := hr3.at 3 _ rfl
        have s4 := hr3.at 4 _ rfl
        have s5 := hr3.at 5 _ rfl
        have s6 := hr3.at 6 _ rfl
        clear hst3 hr3 hg3 hs3 hA2 hS2 hI2 hB2
        have HNw := Lib.hid (newest_any (.slice qI n.items.length kI) n.items most w3 (HI3.out.sl PItem.enc_len) HMM.out.1 HMM.out.2 HIL.out)
        go_wp2_with (refine wpList_store_run _ rfl 28 _ _ rfl _ _ rfl rfl HST3.out ?_)
        (with_reducible refine HNw.out.mono ?_)
        rintro e w3' ⟨v4, rfl, ⟨q4, n4, k4, rfl⟩, hv4, hw3⟩
        obtain rfl := hw3.symm
        have HV4 := Lib.hid hv4
        obtain ⟨w4, st4, hr4, hg4, _⟩ := run_store_one (P := Try.prog) HRb3.out 23 2 (.int .u8 ac) (Try.sizeOf23 _) (by simp) rfl rfl
        obtain ⟨w5, st5, hr5, hg5, _⟩ := run_store_one (P := Try.prog) hr4 3 3 (.int .i64 most) (Try.sizeOf3 _) (by simp) rfl rfl
        obtain ⟨w6, st6, hr6, hg6, _⟩ := run_store_one (P := Try.prog) hr5 26 6 (.slice q4 n4 k4) (Try.sizeOf26 _) (by simp) rfl rfl
        have hgx := gTrans hg4 (gTrans hg5 hg6)
        have hle3 : w.heap.size ≤ w3.heap.size := HB3.out.size
        have HB6 := Lib.hid (below_gone HB3.out hgx HB3.out.size (Nat.le_refl _))
        have HRr6 := Lib.hid (HRr3.out.gone hgx (by omega))
        have m0 := hr6.at 0 _ rfl
        have m1 := hr6.at 1 _ rfl
        have m2 := hr6.at 2 _ rfl
        have m3 := hr6.at 3 _ rfl
        have m4 := hr6.at 4 _ rfl
        have m5 := hr6.at 5 _ rfl
        have m6 := hr6.at 6 _ rfl
        have m7 := hr6.at 7 _ rfl
        obtain ⟨w7, st7, hr7, hg7, _⟩ := run_store_row (P := Try.prog) HRr6.out 28 [.string n.name, .bool n.coll, .int .u8 ac, .int .i64 most, .slice qA n.affs.length kA, .slice qS n.subs.length kS, .slice q4 n4 k4, .string n.parent] (sizeNode w6) rfl rfl (node_one _ _ _ _ _ _ _ _ rfl rfl rfl)
        have HA7 := Lib.hid ((HA3.out.gone hgx nAb).gone hg7 nAr)
        have HS7 := Lib.hid ((HS3.out.gone hgx nSb).gone hg7 nSr)
        have HI7 := Lib.hid ((HI3.out.gone hgx nIb).gone hg7 nIr)
        have HB7 := Lib.hid (below_gone HB6.out hg7 HB6.out.size (Nat.le_succ _))
        have u0 := hr7.at 0 _ rfl
        have u1 := hr7.at 1 _ rfl
        have u2 := hr7.at 2 _ rfl
        have u3 := hr7.at 3 _ rfl
        have u4 := hr7.at 4 _ rfl
        have u5 := hr7.at 5 _ rfl
        have u6 := hr7.at 6 _ rfl
        have u7 := hr7.at 7 _ rfl
        have ST4 := Lib.hid st4
        have ST5 := Lib.hid st5
        have ST6 := Lib.hid st6
        have ST7 := Lib.hid st7
        clear st4 st5 st6 st7 hr4 hr5 hr6 hr7 hg4 hg5 hg6 hg7 hgx hv4
        go_wp2_with (first
          | (refine wpList_store_run _ rfl 23 _ _ rfl _ _ rfl rfl ST4.out ?_)
          | (refine wpList_store_run _ rfl 3 _ _ rfl _ _ rfl rfl ST5.out ?_)
          | (refine wpList_store_run _ rfl 26 _ _ rfl _ _ rfl rfl ST6.out ?_)
          | (refine wpList_store_run _ rfl 28 _ _ rfl _ _ rfl rfl ST7.out ?_))
        refine bodyPost_ret (by simp [results, Try.results8, go_sem, u0, u1, u2, u3, u4, u5, u6, u7]; try rfl) rfl ?_
        exact ⟨_, by rw [HC.out], by rw [HC.out]; exact ⟨_, _, _, rfl, HA7.out.sl PAff.enc_len, HS7.out.sl PSub.enc_len, HV4.out _ (HI7.out.sl PItem.enc_len)⟩, HB7.out⟩
      · have e4 : decide (0 < most) = false := decide_eq_false hf1
        go_upto_region 6 with fail
        clear hf1 e1 e2 e3 e4
        go_wp2_with fail
        (with_reducible refine (HOn.out w1 HB1.out).mono ?_)
        rintro e w2 ⟨v2, rfl, hv2, hB2⟩
        obtain ⟨A2, S2, I2, rfl, hA2, hS2, hI2⟩ := hv2
        have HB2 := Lib.hid (HB1.out.trans (hB2.mono HB1.out.size))
        have HRb := Lib.hid (HR1.out.below hB2)
        have HRr := Lib.hid (HR21.out.below hB2)
        have hA2 := hA2.mono HB1.out.size
        have hS2 := hS2.mono HB1.out.size
        have hI2 := hI2.mono HB1.out.size
        obtain ⟨qA, kA, rfl⟩ := row_slice hA2
        obtain ⟨qS, kS, rfl⟩ := row_slice hS2
        obtain ⟨qI, kI, rfl⟩ := row_slice hI2
        have nAb := hA2.ne HRb.out (by decide)
        have nSb := hS2.ne HRb.out (by decide)
        have nIb := hI2.ne HRb.out (by decide)
        have nAr := hA2.ne HRr.out (by decide)
        have nSr := hS2.ne HRr.out (by decide)
        have nIr := hI2.ne HRr.out (by decide)
        obtain ⟨w3, hst3, hr3, hg3, hs3⟩ := run_store_row (P := Try.prog) HRb.out 28 [.string n.name, .bool n.coll, .int .u8 n.access, .int .i64 n.max, .slice qA n.affs.length kA, .slice qS n.subs.length kS, .slice qI n.items.length kI, .string n.parent] (sizeNode w2) rfl rfl (node_one _ _ _ _ _ _ _ _ rfl rfl rfl)
        have hb3 : w.heap.size ≤ w2.heap.size := HB2.out.size
        have HB3 := Lib.hid (below_gone HB2.out hg3 HB2.out.size (Nat.le_refl _))
        have HA3 := Lib.hid (hA2.gone hg3 nAb)
        have HS3 := Lib.hid (hS2.gone hg3 nSb)
        have HI3 := Lib.hid (hI2.gone hg3 nIb)
        have HRr3 := Lib.hid (HRr.out.gone hg3 (by omega))
        have HRb3 := Lib.hid hr3
        have HST3 := Lib.hid hst3
        have s3 := hr3.at 3 _ rfl
        have s4 := hr3.at 4 _ rfl
        have s5 := hr3.at 5 _ rfl
        have s6 := hr3.at 6 _ rfl
        clear hst3 hr3 hg3 hs3 hA2 hS2 hI2 hB2
        have HNw := Lib.hid (newest_any (.slice qI n.items.length kI) n.items most w3 (HI3.out.sl PItem.enc_len) HMM.out.1 HMM.out.2 HIL.out)
        go_wp2_with (refine wpList_store_run _ rfl 28 _ _ rfl _ _ rfl rfl HST3.out ?_)
        (with_reducible refine HNw.out.mono ?_)
        rintro e w3' ⟨v4, rfl, ⟨q4, n4, k4, rfl⟩, hv4, hw3⟩
        obtain rfl := hw3.symm
        have HV4 := Lib.hid hv4
        obtain ⟨w4, st4, hr4, hg4, _⟩ := run_store_one (P := Try.prog) HRb3.out 23 2 (.int .u8 ac) (Try.sizeOf23 _) (by simp) rfl rfl
        obtain ⟨w5, st5, hr5, hg5, _⟩ := run_store_one (P := Try.prog) hr4 3 3 (.int .i64 most) (Try.sizeOf3 _) (by simp) rfl rfl
        obtain ⟨w6, st6, hr6, hg6, _⟩ := run_store_one (P := Try.prog) hr5 26 6 (.slice q4 n4 k4) (Try.sizeOf26 _) (by simp) rfl rfl
        have hgx := gTrans hg4 (gTrans hg5 hg6)
        have hle3 : w.heap.size ≤ w3.heap.size := HB3.out.size
        have HB6 := Lib.hid (below_gone HB3.out hgx HB3.out.size (Nat.le_refl _))
        have HRr6 := Lib.hid (HRr3.out.gone hgx (by omega))
        have m0 := hr6.at 0 _ rfl
        have m1 := hr6.at 1 _ rfl
        have m2 := hr6.at 2 _ rfl
        have m3 := hr6.at 3 _ rfl
        have m4 := hr6.at 4 _ rfl
        have m5 := hr6.at 5 _ rfl
        have m6 := hr6.at 6 _ rfl
        have m7 := hr6.at 7 _ rfl
        obtain ⟨w7, st7, hr7, hg7, _⟩ := run_store_row (P := Try.prog) HRr6.out 28 [.string n.name, .bool n.coll, .int .u8 ac, .int .i64 most, .slice qA n.affs.length kA, .slice qS n.subs.length kS, .slice q4 n4 k4, .string n.parent] (sizeNode w6) rfl rfl (node_one _ _ _ _ _ _ _ _ rfl rfl rfl)
        have HA7 := Lib.hid ((HA3.out.gone hgx nAb).gone hg7 nAr)
        have HS7 := Lib.hid ((HS3.out.gone hgx nSb).gone hg7 nSr)
        have HI7 := Lib.hid ((HI3.out.gone hgx nIb).gone hg7 nIr)
        have HB7 := Lib.hid (below_gone HB6.out hg7 HB6.out.size (Nat.le_succ _))
        have u0 := hr7.at 0 _ rfl
        have u1 := hr7.at 1 _ rfl
        have u2 := hr7.at 2 _ rfl
        have u3 := hr7.at 3 _ rfl
        have u4 := hr7.at 4 _ rfl
        have u5 := hr7.at 5 _ rfl
        have u6 := hr7.at 6 _ rfl
        have u7 := hr7.at 7 _ rfl
        have ST4 := Lib.hid st4
        have ST5 := Lib.hid st5
        have ST6 := Lib.hid st6
        have ST7 := Lib.hid st7
        clear st4 st5 st6 st7 hr4 hr5 hr6 hr7 hg4 hg5 hg6 hg7 hgx hv4
        go_wp2_with (first
          | (refine wpList_store_run _ rfl 23 _ _ rfl _ _ rfl rfl ST4.out ?_)
          | (refine wpList_store_run _ rfl 3 _ _ rfl _ _ rfl rfl ST5.out ?_)
          | (refine wpList_store_run _ rfl 26 _ _ rfl _ _ rfl rfl ST6.out ?_)
          | (refine wpList_store_run _ rfl 28 _ _ rfl _ _ rfl rfl ST7.out ?_))
        refine bodyPost_ret (by simp [results, Try.results8, go_sem, u0, u1, u2, u3, u4, u5, u6, u7]; try rfl) rfl ?_
        exact ⟨_, by rw [HC.out], by rw [HC.out]; exact ⟨_, _, _, rfl, HA7.out.sl PAff.enc_len, HS7.out.sl PSub.enc_len, HV4.out _ (HI7.out.sl PItem.enc_len)⟩, HB7.out⟩
  · have hne : (ownerN pr n by_ != 0) = true := by rw [bne_iff_ne]; exact ho
    have HC : Hid (configureN pr n by_ ac most = (noNode, ownerN pr n by_)) := by show _ = _; unfold configureN; rw [if_pos hne]
    generalize ownerN pr n by_ = c at *
    clear ho
    go_wp2_with fail
    (with_reducible refine (refused_any c w1).mono ?_)
    rintro e wr ⟨vr, rfl, hvr, hBr⟩
    obtain ⟨Ar, Sr, Ir, rfl, hAr, hSr, hIr⟩ := hvr
    have HVr := Lib.hid (And.intro hAr (And.intro hSr hIr))
    have HBr := Lib.hid (HB1.out.trans (hBr.mono HB1.out.size))
    obtain ⟨wq, hst, hrq, hgq, hsq⟩ := run_store_row (P := Try.prog) (HR21.out.below hBr) 28 [.string noNode.name, .bool noNode.coll, .int .u8 noNode.access, .int .i64 noNode.max, Ar, Sr, Ir, .string noNode.parent] (sizeNode wr) rfl rfl (node_one _ _ _ _ _ _ _ _ hAr.one hSr.one hIr.one)
    have HGq := Lib.hid hgq
    have HST := Lib.hid hst
    have r0 := hrq.at 0 _ rfl
    have r1 := hrq.at 1 _ rfl
    have r2 := hrq.at 2 _ rfl
    have r3 := hrq.at 3 _ rfl
    have r4 := hrq.at 4 _ rfl
    have r5 := hrq.at 5 _ rfl
    have r6 := hrq.at 6 _ rfl
    have r7 := hrq.at 7 _ rfl
    clear hst hrq hgq hsq hAr hSr hIr hBr
    go_wp2_with (refine wpList_store_run _ rfl 28 _ _ rfl _ _ rfl rfl HST.out ?_)
    refine bodyPost_ret (by simp [results, Try.results8, go_sem, r0, r1, r2, r3, r4, r5, r6, r7]; try rfl) rfl ?_
    exact ⟨_, by rw [HC.out], by rw [HC.out]; exact ⟨Ar, Sr, Ir, rfl, HVr.out.1.empty, HVr.out.2.1.empty, HVr.out.2.2.empty⟩, below_gone HBr.out HGq.out HBr.out.size (Nat.le_succ _)⟩
end Go.Proofs.Ytpjaopcgoaannaa
