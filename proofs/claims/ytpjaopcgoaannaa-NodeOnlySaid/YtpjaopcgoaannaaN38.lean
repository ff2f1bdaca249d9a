/- NodeOnly: the walk. Written by gen_n38.py. -/
import Derived.Test.YtpjaopcgoaannaaN23
import Derived.Test.YtpjaopcgoaannaaN32
import Derived.Test.YtpjaopcgoaannaaN33
import Derived.Test.YtpjaopcgoaannaaN36
import Derived.Test.YtpjaopcgoaannaaN37
import Derived.Test.YtpjaopcgoaannaaN39
import Derived.Test.YtpjaopcgoaannaaN40
namespace Go.Proofs.Ytpjaopcgoaannaa
open Go.RowKit Go.Lib
open Hb

set_option maxRecDepth 100000 in
set_option maxHeartbeats 8000000 in
theorem nodeOnly_row (w : World) (v : Value) (n : PNode) (hv : NodeV w v n) (hn : SmN n) (x : PEdit) (hx : SmX x) :
    Calls Try.prog 7 #[v, .agg x.enc.toArray] w fun e w' => e = .returned (.bool true) ∧ Below w.heap.size w w' := by
  obtain ⟨xk, xb, xw, xd, xm, xy, xr, xa, xi, xt⟩ := x
  have hv0 := hv
  obtain ⟨A, S, I, rfl, hA, hS, hI⟩ := hv
  obtain ⟨aA, cA, rfl⟩ := hA.form
  obtain ⟨aS, cS, rfl⟩ := hS.form
  obtain ⟨aI, cI, rfl⟩ := hI.form
  obtain ⟨W0, hW0, hB0, hr1, hr2, hs⟩ := two w 28 43 [.string n.name, .bool n.coll, .int .u8 n.access, .int .i64 n.max, .slice aA n.affs.length cA, .slice aS n.subs.length cS, .slice aI n.items.length cI, .string n.parent] [.int .i64 xk, .string xb, .string xw, .int .i64 xd, .int .i64 xm, .bool xy, .int .u8 xr, .int .u8 xa, .string xi, .string xt]
  have hfew := few_any _ n W0 (hv0.below hB0)
  have hbf : Bd (fewN n) := hn.few
  generalize fewN n = f at hfew hbf
  have HFw := Lib.hid hfew
  have HD := Lib.hid hbf
  have HX := Lib.hid hx
  have HW := Lib.hid hW0
  have HB := Lib.hid hB0
  have HR := Lib.hid hr1
  have HE := Lib.hid hr2
  have c0 := hr1.at 0 _ rfl
  have c1 := hr1.at 1 _ rfl
  have c2 := hr1.at 2 _ rfl
  have c3 := hr1.at 3 _ rfl
  have c4 := hr1.at 4 _ rfl
  have c5 := hr1.at 5 _ rfl
  have c6 := hr1.at 6 _ rfl
  have c7 := hr1.at 7 _ rfl
  clear hW0 hB0 hr1 hr2 hs hA hS hI hv0 hn hx hfew hbf
  unfold PEdit.enc
  go_enter Try.func7, Try.ntmps7
  go_upto_region 1 with fail
  rw [HW.out]
  clear HW
  go_wp2_with fail
  (with_reducible refine HFw.out.mono ?_)
  rintro e w1 ⟨v1, rfl, hv1, hB1⟩
  have hv1' := hv1
  obtain ⟨A1, S1, I1, rfl, hA1, hS1, hI1⟩ := hv1
  obtain ⟨a1, k1, rfl⟩ := hA1.form
  obtain ⟨a2, k2, rfl⟩ := hS1.form
  obtain ⟨a3, k3, rfl⟩ := hI1.form
  have hR1 := HR.out.below hB1
  obtain ⟨w2, st2, hr2, hg2, _⟩ := run_store_row (P := Try.prog) hR1 28 [.string f.name, .bool f.coll, .int .u8 f.access, .int .i64 f.max, .slice a1 f.affs.length k1, .slice a2 f.subs.length k2, .slice a3 f.items.length k3, .string f.parent] (sizeNode w1) rfl rfl (node_one _ _ _ _ _ _ _ _ rfl rfl rfl)
  have HV2 := Lib.hid (hv1'.goneN hR1 hg2)
  have HB2 := Lib.hid (below_gone (HB.out.trans (hB1.mono HB.out.size)) hg2 (Nat.le_trans HB.out.size hB1.size) (Nat.le_refl _))
  have HR2 := Lib.hid hr2
  have HE2 := Lib.hid ((HE.out.below hB1).gone hg2 (by omega))
  have HST2 := Lib.hid st2
  have HDo := Lib.hid (do_any _ f ⟨xk, xb, xw, xd, xm, xy, xr, xa, xi, xt⟩ w2 HV2.out HD.out HX.out)
  have p0 := HR2.out.at 0 _ rfl
  have p1 := HR2.out.at 1 _ rfl
  have p2 := HR2.out.at 2 _ rfl
  have p3 := HR2.out.at 3 _ rfl
  have p4 := HR2.out.at 4 _ rfl
  have p5 := HR2.out.at 5 _ rfl
  have p6 := HR2.out.at 6 _ rfl
  have p7 := HR2.out.at 7 _ rfl
  have d0 := HE2.out.at 0 _ rfl
  have d1 := HE2.out.at 1 _ rfl
  have d2 := HE2.out.at 2 _ rfl
  have d3 := HE2.out.at 3 _ rfl
  have d4 := HE2.out.at 4 _ rfl
  have d5 := HE2.out.at 5 _ rfl
  have d6 := HE2.out.at 6 _ rfl
  have d7 := HE2.out.at 7 _ rfl
  have d8 := HE2.out.at 8 _ rfl
  have d9 := HE2.out.at 9 _ rfl
  clear st2 hr2 hg2 hR1 hv1' hA1 hS1 hI1 hB1 HFw
  unfold PEdit.enc at HDo
  go_wp2_with (refine wpList_store_run _ rfl 28 _ _ rfl _ _ rfl rfl HST2.out ?_)
  (with_reducible refine HDo.out.mono ?_)
  rintro e w3 ⟨v3, rfl, hv3, hB3⟩
  have hlaw := only_law (p := pr) (n := f) (x := ⟨xk, xb, xw, xd, xm, xy, xr, xa, xi, xt⟩)
  have hbdo := bd_do (x := ⟨xk, xb, xw, xd, xm, xy, xr, xa, xi, xt⟩) HD.out HX.out
  generalize hres : doN pr f ⟨xk, xb, xw, xd, xm, xy, xr, xa, xi, xt⟩ = res at *
  obtain ⟨A3, S3, I3, rfl, hA3, hS3, hI3⟩ := hv3
  obtain ⟨b1, l1, rfl⟩ := hA3.form
  obtain ⟨b2, l2, rfl⟩ := hS3.form
  obtain ⟨b3, l3, rfl⟩ := hI3.form
  obtain ⟨w4, hw4, hB4, hr4, hs4⟩ := one w3 28 [.string res.1.name, .bool res.1.coll, .int .u8 res.1.access, .int .i64 res.1.max, .slice b1 res.1.affs.length l1, .slice b2 res.1.subs.length l2, .slice b3 res.1.items.length l3, .string res.1.parent]
  have hB24 := hB3.trans (hB4.mono hB3.size)
  have HV4 : Hid (NodeV w4 (.agg #[.string res.1.name, .bool res.1.coll, .int .u8 res.1.access, .int .i64 res.1.max, .slice b1 res.1.affs.length l1, .slice b2 res.1.subs.length l2, .slice b3 res.1.items.length l3, .string res.1.parent]) res.1) := NodeV.below ⟨_, _, _, rfl, hA3, hS3, hI3⟩ hB4
  have HF4 := Lib.hid (HV2.out.below hB24)
  have HB4 := Lib.hid (HB2.out.trans (hB24.mono HB2.out.size))
  have HR4 := Lib.hid hr4
  have HN4 := Lib.hid (HR2.out.below hB24)
  have HE4 := Lib.hid (HE2.out.below hB24)
  have HW4 := Lib.hid hw4
  have HLaw := Lib.hid hlaw
  have HBdo := Lib.hid hbdo
  have HLV := Lib.hid (live_any)
  have p0 := HN4.out.at 0 _ rfl
  have p1 := HN4.out.at 1 _ rfl
  have p2 := HN4.out.at 2 _ rfl
  have p3 := HN4.out.at 3 _ rfl
  have p4 := HN4.out.at 4 _ rfl
  have p5 := HN4.out.at 5 _ rfl
  have p6 := HN4.out.at 6 _ rfl
  have p7 := HN4.out.at 7 _ rfl
  have d0 := HE4.out.at 0 _ rfl
  clear hres hw4 hr4 hs4 hB24 hB4 hB3 hA3 hS3 hI3 HDo HR HE HV2 HR2 HE2 HST2 hlaw hbdo
  go_upto_region 3 with fail
  rw [HW4.out]
  clear HW4
  by_cases hc : res.2 = 0
  · have HL2 := Lib.hid (HLaw.out hc)
    have HLn : Hid (res.1.affs.length ≤ 1000 ∧ res.1.subs.length ≤ 1000 ∧ res.1.items.length ≤ 1000) := by
      have := (HBdo.out hc).2
      exact ⟨this.affs, this.subs, this.items⟩
    rw [hc]
    clear hc HLaw HBdo
    generalize res.2 = code at *
    obtain ⟨w5, hw5, hB5, hr5, hs5⟩ := one w4 28 [.string f.name, .bool f.coll, .int .u8 f.access, .int .i64 f.max, .slice a1 f.affs.length k1, .slice a2 f.subs.length k2, .slice a3 f.items.length k3, .string f.parent]
    have HB5 := Lib.hid (HB4.out.trans (hB5.mono HB4.out.size))
    have HRm5 := Lib.hid (HR4.out.below hB5)
    have HRy5 := Lib.hid hr5
    have HVm5 := Lib.hid (HV4.out.below hB5)
    have HVf5 := Lib.hid (HF4.out.below hB5)
    have HL5 := Lib.hid (HB4.out.size)
    have HNE := Lib.hid (Nat.ne_of_lt HR4.out.lt)
    have HW5 := Lib.hid hw5
    have HEd := Lib.hid (HE4.out.below hB5)
    have e0 := HEd.out.at 0 _ rfl
    have m0 := HRm5.out.at 0 _ rfl
    have m1 := HRm5.out.at 1 _ rfl
    have m2 := HRm5.out.at 2 _ rfl
    have m3 := HRm5.out.at 3 _ rfl
    have m4 := HRm5.out.at 4 _ rfl
    have m5 := HRm5.out.at 5 _ rfl
    have m6 := HRm5.out.at 6 _ rfl
    have m7 := HRm5.out.at 7 _ rfl
    clear hw5 hB5 hr5 hs5 HV4 HF4 HR4 HN4 HE4 HB4
    go_upto_region 7 with fail
    rw [HW5.out]
    clear HW5
    by_cases hk0 : xk = 0
    · subst hk0
      obtain ⟨w6, st6, hr6, hg6, _⟩ := run_store_one (P := Try.prog) HRy5.out 25 5 (.slice b2 res.1.subs.length l2) (Try.sizeOf25 _) (by simp) rfl rfl
      have HB6 := Lib.hid (below_gone HB5.out hg6 HB5.out.size HL5.out)
      have HRm6 := Lib.hid (HRm5.out.gone hg6 HNE.out)
      have HRy6 := Lib.hid hr6
      have HVm6 := Lib.hid (HVm5.out.goneN HRy5.out hg6)
      have HVf6 := Lib.hid (HVf5.out.goneN HRy5.out hg6)
      have HVy6 : Hid (NodeV w6 (.agg #[.string f.name, .bool f.coll, .int .u8 f.access, .int .i64 f.max, .slice a1 f.affs.length k1, .slice b2 res.1.subs.length l2, .slice a3 f.items.length k3, .string f.parent]) res.1) := by
        show NodeV _ _ _
        obtain ⟨_, _, _, e1, hA1, hS1, hI1⟩ := HVf6.out
        obtain ⟨_, _, _, e2, hA2, hS2, hI2⟩ := HVm6.out
        cases e1; cases e2
        have he := HL2.out.1 (by omega)
        exact ⟨_, _, _, by rw [he], by rw [he] at hA2 ⊢; exact hA1, by rw [he] at hS2 ⊢; exact hS2, by rw [he] at hI2 ⊢; exact hI1⟩
      have HST6 := Lib.hid st6
      clear st6 hr6 hg6
      go_wp2_with (refine wpList_store_run _ rfl 25 _ _ rfl _ _ rfl rfl HST6.out ?_)
      (with_reducible refine (HLV.out w6).mono ?_)
      rintro e w7 ⟨rfl, hB7⟩
      have HB7 := Lib.hid (HB6.out.trans (hB7.mono HB6.out.size))
      have HSm := Lib.hid (same_any _ _ res.1 w7 (HVm6.out.below hB7) (HVy6.out.below hB7) HLn.out)
      have m0 := (HRm6.out.below hB7).at 0 _ rfl
      have m1 := (HRm6.out.below hB7).at 1 _ rfl
      have m2 := (HRm6.out.below hB7).at 2 _ rfl
      have m3 := (HRm6.out.below hB7).at 3 _ rfl
      have m4 := (HRm6.out.below hB7).at 4 _ rfl
      have m5 := (HRm6.out.below hB7).at 5 _ rfl
      have m6 := (HRm6.out.below hB7).at 6 _ rfl
      have m7 := (HRm6.out.below hB7).at 7 _ rfl
      have y0 := (HRy6.out.below hB7).at 0 _ rfl
      have y1 := (HRy6.out.below hB7).at 1 _ rfl
      have y2 := (HRy6.out.below hB7).at 2 _ rfl
      have y3 := (HRy6.out.below hB7).at 3 _ rfl
      have y4 := (HRy6.out.below hB7).at 4 _ rfl
      have y5 := (HRy6.out.below hB7).at 5 _ rfl
      have y6 := (HRy6.out.below hB7).at 6 _ rfl
      have y7 := (HRy6.out.below hB7).at 7 _ rfl
      clear hB7
      go_wp2_with fail
      (with_reducible refine HSm.out.mono ?_)
      rintro e w8 ⟨rfl, hB8⟩
      have HB8 := Lib.hid (HB7.out.trans (hB8.mono HB7.out.size))
      clear hB8
      go_wp2_with fail
      go_returns
      exact ⟨rfl, HB8.out⟩
    have e0_ : (xk == 0) = false := beq_eq_false_iff_ne.2 hk0
    by_cases hk1 : xk = 1
    · subst hk1
      obtain ⟨w6, st6, hr6, hg6, _⟩ := run_store_one (P := Try.prog) HRy5.out 25 5 (.slice b2 res.1.subs.length l2) (Try.sizeOf25 _) (by simp) rfl rfl
      have HB6 := Lib.hid (below_gone HB5.out hg6 HB5.out.size HL5.out)
      have HRm6 := Lib.hid (HRm5.out.gone hg6 HNE.out)
      have HRy6 := Lib.hid hr6
      have HVm6 := Lib.hid (HVm5.out.goneN HRy5.out hg6)
      have HVf6 := Lib.hid (HVf5.out.goneN HRy5.out hg6)
      have HVy6 : Hid (NodeV w6 (.agg #[.string f.name, .bool f.coll, .int .u8 f.access, .int .i64 f.max, .slice a1 f.affs.length k1, .slice b2 res.1.subs.length l2, .slice a3 f.items.length k3, .string f.parent]) res.1) := by
        show NodeV _ _ _
        obtain ⟨_, _, _, e1, hA1, hS1, hI1⟩ := HVf6.out
        obtain ⟨_, _, _, e2, hA2, hS2, hI2⟩ := HVm6.out
        cases e1; cases e2
        have he := HL2.out.1 (by omega)
        exact ⟨_, _, _, by rw [he], by rw [he] at hA2 ⊢; exact hA1, by rw [he] at hS2 ⊢; exact hS2, by rw [he] at hI2 ⊢; exact hI1⟩
      have HST6 := Lib.hid st6
      clear st6 hr6 hg6
      go_wp2_with (refine wpList_store_run _ rfl 25 _ _ rfl _ _ rfl rfl HST6.out ?_)
      (with_reducible refine (HLV.out w6).mono ?_)
      rintro e w7 ⟨rfl, hB7⟩
      have HB7 := Lib.hid (HB6.out.trans (hB7.mono HB6.out.size))
      have HSm := Lib.hid (same_any _ _ res.1 w7 (HVm6.out.below hB7) (HVy6.out.below hB7) HLn.out)
      have m0 := (HRm6.out.below hB7).at 0 _ rfl
      have m1 := (HRm6.out.below hB7).at 1 _ rfl
      have m2 := (HRm6.out.below hB7).at 2 _ rfl
      have m3 := (HRm6.out.below hB7).at 3 _ rfl
      have m4 := (HRm6.out.below hB7).at 4 _ rfl
      have m5 := (HRm6.out.below hB7).at 5 _ rfl
      have m6 := (HRm6.out.below hB7).at 6 _ rfl
      have m7 := (HRm6.out.below hB7).at 7 _ rfl
      have y0 := (HRy6.out.below hB7).at 0 _ rfl
      have y1 := (HRy6.out.below hB7).at 1 _ rfl
      have y2 := (HRy6.out.below hB7).at 2 _ rfl
      have y3 := (HRy6.out.below hB7).at 3 _ rfl
      have y4 := (HRy6.out.below hB7).at 4 _ rfl
      have y5 := (HRy6.out.below hB7).at 5 _ rfl
      have y6 := (HRy6.out.below hB7).at 6 _ rfl
      have y7 := (HRy6.out.below hB7).at 7 _ rfl
      clear hB7
      go_wp2_with fail
      (with_reducible refine HSm.out.mono ?_)
      rintro e w8 ⟨rfl, hB8⟩
      have HB8 := Lib.hid (HB7.out.trans (hB8.mono HB7.out.size))
      clear hB8
      go_wp2_with fail
      go_returns
      exact ⟨rfl, HB8.out⟩
    have e1_ : (xk == 1) = false := beq_eq_false_iff_ne.2 hk1
    by_cases hk2 : xk = 2
    · subst hk2
      obtain ⟨w6, st6, hr6, hg6, _⟩ := run_store_one (P := Try.prog) HRy5.out 25 5 (.slice b2 res.1.subs.length l2) (Try.sizeOf25 _) (by simp) rfl rfl
      have HB6 := Lib.hid (below_gone HB5.out hg6 HB5.out.size HL5.out)
      have HRm6 := Lib.hid (HRm5.out.gone hg6 HNE.out)
      have HRy6 := Lib.hid hr6
      have HVm6 := Lib.hid (HVm5.out.goneN HRy5.out hg6)
      have HVf6 := Lib.hid (HVf5.out.goneN HRy5.out hg6)
      have HVy6 : Hid (NodeV w6 (.agg #[.string f.name, .bool f.coll, .int .u8 f.access, .int .i64 f.max, .slice a1 f.affs.length k1, .slice b2 res.1.subs.length l2, .slice a3 f.items.length k3, .string f.parent]) res.1) := by
        show NodeV _ _ _
        obtain ⟨_, _, _, e1, hA1, hS1, hI1⟩ := HVf6.out
        obtain ⟨_, _, _, e2, hA2, hS2, hI2⟩ := HVm6.out
        cases e1; cases e2
        have he := HL2.out.1 (by omega)
        exact ⟨_, _, _, by rw [he], by rw [he] at hA2 ⊢; exact hA1, by rw [he] at hS2 ⊢; exact hS2, by rw [he] at hI2 ⊢; exact hI1⟩
      have HST6 := Lib.hid st6
      clear st6 hr6 hg6
      go_wp2_with (refine wpList_store_run _ rfl 25 _ _ rfl _ _ rfl rfl HST6.out ?_)
      (with_reducible refine (HLV.out w6).mono ?_)
      rintro e w7 ⟨rfl, hB7⟩
      have HB7 := Lib.hid (HB6.out.trans (hB7.mono HB6.out.size))
      have HSm := Lib.hid (same_any _ _ res.1 w7 (HVm6.out.below hB7) (HVy6.out.below hB7) HLn.out)
      have m0 := (HRm6.out.below hB7).at 0 _ rfl
      have m1 := (HRm6.out.below hB7).at 1 _ rfl
      have m2 := (HRm6.out.below hB7).at 2 _ rfl
      have m3 := (HRm6.out.below hB7).at 3 _ rfl
      have m4 := (HRm6.out.below hB7).at 4 _ rfl
      have m5 := (HRm6.out.below hB7).at 5 _ rfl
      have m6 := (HRm6.out.below hB7).at 6 _ rfl
      have m7 := (HRm6.out.below hB7).at 7 _ rfl
      have y0 := (HRy6.out.below hB7).at 0 _ rfl
      have y1 := (HRy6.out.below hB7).at 1 _ rfl
      have y2 := (HRy6.out.below hB7).at 2 _ rfl
      have y3 := (HRy6.out.below hB7).at 3 _ rfl
      have y4 := (HRy6.out.below hB7).at 4 _ rfl
      have y5 := (HRy6.out.below hB7).at 5 _ rfl
      have y6 := (HRy6.out.below hB7).at 6 _ rfl
      have y7 := (HRy6.out.below hB7).at 7 _ rfl
      clear hB7
      go_wp2_with fail
      (with_reducible refine HSm.out.mono ?_)
      rintro e w8 ⟨rfl, hB8⟩
      have HB8 := Lib.hid (HB7.out.trans (hB8.mono HB7.out.size))
      clear hB8
      go_wp2_with fail
      go_returns
      exact ⟨rfl, HB8.out⟩
    have e2_ : (xk == 2) = false := beq_eq_false_iff_ne.2 hk2
    by_cases hk4 : xk = 4
    · subst hk4
      obtain ⟨w6, st6, hr6, hg6, _⟩ := run_store_one (P := Try.prog) HRy5.out 26 6 (.slice b3 res.1.items.length l3) (Try.sizeOf26 _) (by simp) rfl rfl
      have HB6 := Lib.hid (below_gone HB5.out hg6 HB5.out.size HL5.out)
      have HRm6 := Lib.hid (HRm5.out.gone hg6 HNE.out)
      have HRy6 := Lib.hid hr6
      have HVm6 := Lib.hid (HVm5.out.goneN HRy5.out hg6)
      have HVf6 := Lib.hid (HVf5.out.goneN HRy5.out hg6)
      have HVy6 : Hid (NodeV w6 (.agg #[.string f.name, .bool f.coll, .int .u8 f.access, .int .i64 f.max, .slice a1 f.affs.length k1, .slice a2 f.subs.length k2, .slice b3 res.1.items.length l3, .string f.parent]) res.1) := by
        show NodeV _ _ _
        obtain ⟨_, _, _, e1, hA1, hS1, hI1⟩ := HVf6.out
        obtain ⟨_, _, _, e2, hA2, hS2, hI2⟩ := HVm6.out
        cases e1; cases e2
        have he := HL2.out.2.2.1 (by omega)
        exact ⟨_, _, _, by rw [he], by rw [he] at hA2 ⊢; exact hA1, by rw [he] at hS2 ⊢; exact hS1, by rw [he] at hI2 ⊢; exact hI2⟩
      have HST6 := Lib.hid st6
      clear st6 hr6 hg6
      go_wp2_with (refine wpList_store_run _ rfl 26 _ _ rfl _ _ rfl rfl HST6.out ?_)
      (with_reducible refine (HLV.out w6).mono ?_)
      rintro e w7 ⟨rfl, hB7⟩
      have HB7 := Lib.hid (HB6.out.trans (hB7.mono HB6.out.size))
      have HSm := Lib.hid (same_any _ _ res.1 w7 (HVm6.out.below hB7) (HVy6.out.below hB7) HLn.out)
      have m0 := (HRm6.out.below hB7).at 0 _ rfl
      have m1 := (HRm6.out.below hB7).at 1 _ rfl
      have m2 := (HRm6.out.below hB7).at 2 _ rfl
      have m3 := (HRm6.out.below hB7).at 3 _ rfl
      have m4 := (HRm6.out.below hB7).at 4 _ rfl
      have m5 := (HRm6.out.below hB7).at 5 _ rfl
      have m6 := (HRm6.out.below hB7).at 6 _ rfl
      have m7 := (HRm6.out.below hB7).at 7 _ rfl
      have y0 := (HRy6.out.below hB7).at 0 _ rfl
      have y1 := (HRy6.out.below hB7).at 1 _ rfl
      have y2 := (HRy6.out.below hB7).at 2 _ rfl
      have y3 := (HRy6.out.below hB7).at 3 _ rfl
      have y4 := (HRy6.out.below hB7).at 4 _ rfl
      have y5 := (HRy6.out.below hB7).at 5 _ rfl
      have y6 := (HRy6.out.below hB7).at 6 _ rfl
      have y7 := (HRy6.out.below hB7).at 7 _ rfl
      clear hB7
      go_wp2_with fail
      (with_reducible refine HSm.out.mono ?_)
      rintro e w8 ⟨rfl, hB8⟩
      have HB8 := Lib.hid (HB7.out.trans (hB8.mono HB7.out.size))
      clear hB8
      go_wp2_with fail
      go_returns
      exact ⟨rfl, HB8.out⟩
    have e4_ : (xk == 4) = false := beq_eq_false_iff_ne.2 hk4
    by_cases hk5 : xk = 5
    · subst hk5
      obtain ⟨w6, st6, hr6, hg6, _⟩ := run_store_one (P := Try.prog) HRy5.out 26 6 (.slice b3 res.1.items.length l3) (Try.sizeOf26 _) (by simp) rfl rfl
      have HB6 := Lib.hid (below_gone HB5.out hg6 HB5.out.size HL5.out)
      have HRm6 := Lib.hid (HRm5.out.gone hg6 HNE.out)
      have HRy6 := Lib.hid hr6
      have HVm6 := Lib.hid (HVm5.out.goneN HRy5.out hg6)
      have HVf6 := Lib.hid (HVf5.out.goneN HRy5.out hg6)
      have HVy6 : Hid (NodeV w6 (.agg #[.string f.name, .bool f.coll, .int .u8 f.access, .int .i64 f.max, .slice a1 f.affs.length k1, .slice a2 f.subs.length k2, .slice b3 res.1.items.length l3, .string f.parent]) res.1) := by
        show NodeV _ _ _
        obtain ⟨_, _, _, e1, hA1, hS1, hI1⟩ := HVf6.out
        obtain ⟨_, _, _, e2, hA2, hS2, hI2⟩ := HVm6.out
        cases e1; cases e2
        have he := HL2.out.2.2.1 (by omega)
        exact ⟨_, _, _, by rw [he], by rw [he] at hA2 ⊢; exact hA1, by rw [he] at hS2 ⊢; exact hS1, by rw [he] at hI2 ⊢; exact hI2⟩
      have HST6 := Lib.hid st6
      clear st6 hr6 hg6
      go_wp2_with (refine wpList_store_run _ rfl 26 _ _ rfl _ _ rfl rfl HST6.out ?_)
      (with_reducible refine (HLV.out w6).mono ?_)
      rintro e w7 ⟨rfl, hB7⟩
      have HB7 := Lib.hid (HB6.out.trans (hB7.mono HB6.out.size))
      have HSm := Lib.hid (same_any _ _ res.1 w7 (HVm6.out.below hB7) (HVy6.out.below hB7) HLn.out)
      have m0 := (HRm6.out.below hB7).at 0 _ rfl
      have m1 := (HRm6.out.below hB7).at 1 _ rfl
      have m2 := (HRm6.out.below hB7).at 2 _ rfl
      have m3 := (HRm6.out.below hB7).at 3 _ rfl
      have m4 := (HRm6.out.below hB7).at 4 _ rfl
      have m5 := (HRm6.out.below hB7).at 5 _ rfl
      have m6 := (HRm6.out.below hB7).at 6 _ rfl
      have m7 := (HRm6.out.below hB7).at 7 _ rfl
      have y0 := (HRy6.out.below hB7).at 0 _ rfl
      have y1 := (HRy6.out.below hB7).at 1 _ rfl
      have y2 := (HRy6.out.below hB7).at 2 _ rfl
      have y3 := (HRy6.out.below hB7).at 3 _ rfl
      have y4 := (HRy6.out.below hB7).at 4 _ rfl
      have y5 := (HRy6.out.below hB7).at 5 _ rfl
      have y6 := (HRy6.out.below hB7).at 6 _ rfl
      have y7 := (HRy6.out.below hB7).at 7 _ rfl
      clear hB7
      go_wp2_with fail
      (with_reducible refine HSm.out.mono ?_)
      rintro e w8 ⟨rfl, hB8⟩
      have HB8 := Lib.hid (HB7.out.trans (hB8.mono HB7.out.size))
      clear hB8
      go_wp2_with fail
      go_returns
      exact ⟨rfl, HB8.out⟩
    have e5_ : (xk == 5) = false := beq_eq_false_iff_ne.2 hk5
    by_cases hk6 : xk = 6
    · subst hk6
      obtain ⟨w6, st6, hr6, hg6, _⟩ := run_store_one (P := Try.prog) HRy5.out 26 6 (.slice b3 res.1.items.length l3) (Try.sizeOf26 _) (by simp) rfl rfl
      have HB6 := Lib.hid (below_gone HB5.out hg6 HB5.out.size HL5.out)
      have HRm6 := Lib.hid (HRm5.out.gone hg6 HNE.out)
      have HRy6 := Lib.hid hr6
      have HVm6 := Lib.hid (HVm5.out.goneN HRy5.out hg6)
      have HVf6 := Lib.hid (HVf5.out.goneN HRy5.out hg6)
      have HVy6 : Hid (NodeV w6 (.agg #[.string f.name, .bool f.coll, .int .u8 f.access, .int .i64 f.max, .slice a1 f.affs.length k1, .slice a2 f.subs.length k2, .slice b3 res.1.items.length l3, .string f.parent]) res.1) := by
        show NodeV _ _ _
        obtain ⟨_, _, _, e1, hA1, hS1, hI1⟩ := HVf6.out
        obtain ⟨_, _, _, e2, hA2, hS2, hI2⟩ := HVm6.out
        cases e1; cases e2
        have he := HL2.out.2.2.1 (by omega)
        exact ⟨_, _, _, by rw [he], by rw [he] at hA2 ⊢; exact hA1, by rw [he] at hS2 ⊢; exact hS1, by rw [he] at hI2 ⊢; exact hI2⟩
      have HST6 := Lib.hid st6
      clear st6 hr6 hg6
      go_wp2_with (refine wpList_store_run _ rfl 26 _ _ rfl _ _ rfl rfl HST6.out ?_)
      (with_reducible refine (HLV.out w6).mono ?_)
      rintro e w7 ⟨rfl, hB7⟩
      have HB7 := Lib.hid (HB6.out.trans (hB7.mono HB6.out.size))
      have HSm := Lib.hid (same_any _ _ res.1 w7 (HVm6.out.below hB7) (HVy6.out.below hB7) HLn.out)
      have m0 := (HRm6.out.below hB7).at 0 _ rfl
      have m1 := (HRm6.out.below hB7).at 1 _ rfl
      have m2 := (HRm6.out.below hB7).at 2 _ rfl
      have m3 := (HRm6.out.below hB7).at 3 _ rfl
      have m4 := (HRm6.out.below hB7).at 4 _ rfl
      have m5 := (HRm6.out.below hB7).at 5 _ rfl
      have m6 := (HRm6.out.below hB7).at 6 _ rfl
      have m7 := (HRm6.out.below hB7).at 7 _ rfl
      have y0 := (HRy6.out.below hB7).at 0 _ rfl
      have y1 := (HRy6.out.below hB7).at 1 _ rfl
      have y2 := (HRy6.out.below hB7).at 2 _ rfl
      have y3 := (HRy6.out.below hB7).at 3 _ rfl
      have y4 := (HRy6.out.below hB7).at 4 _ rfl
      have y5 := (HRy6.out.below hB7).at 5 _ rfl
      have y6 := (HRy6.out.below hB7).at 6 _ rfl
      have y7 := (HRy6.out.below hB7).at 7 _ rfl
      clear hB7
      go_wp2_with fail
      (with_reducible refine HSm.out.mono ?_)
      rintro e w8 ⟨rfl, hB8⟩
      have HB8 := Lib.hid (HB7.out.trans (hB8.mono HB7.out.size))
      clear hB8
      go_wp2_with fail
      go_returns
      exact ⟨rfl, HB8.out⟩
    have e6_ : (xk == 6) = false := beq_eq_false_iff_ne.2 hk6
    by_cases hk3 : xk = 3
    · subst hk3
      have y4 := HRy5.out.at 4 _ rfl
      have z4 := HRy5.out.frozen 4
      have y5 := HRy5.out.at 5 _ rfl
      have z5 := HRy5.out.frozen 5
      have nn2 : ¬ w3.heap.size = w4.heap.size := HNE.out
      have nn1 : ¬ w4.heap.size = w3.heap.size := fun e => HNE.out e.symm
      go_wp2_with fail
      go_region
      obtain ⟨w6a, hw6a⟩ : ∃ w6a, w6a = (w5.setCell ⟨w4.heap.size, 4, none⟩ (.slice b1 res.1.affs.length l1)).setCell ⟨w4.heap.size, 5, none⟩ (.slice b2 res.1.subs.length l2) := ⟨_, rfl⟩
      have hg6 : w5.grownBy w6a (some w4.heap.size) := by rw [hw6a]; exact (gTrans (grown_set _) (grown_set _))
      have hr6 : RowI w6a w4.heap.size 28 8 [.string f.name, .bool f.coll, .int .u8 f.access, .int .i64 f.max, .slice b1 res.1.affs.length l1, .slice b2 res.1.subs.length l2, .slice a3 f.items.length k3, .string f.parent] := by rw [hw6a]; exact ((HRy5.out.set 4 (by simp) (.slice b1 res.1.affs.length l1)).set 5 (by simp) (.slice b2 res.1.subs.length l2))
      have hd6 : Below w6a.heap.size w6a w6a.drew := (Below.refl _ _).drew
      rw [← hw6a]
      clear hw6a
      have HB6 := Lib.hid ((below_gone HB5.out hg6 HB5.out.size HL5.out).drew)
      have HRm6 := Lib.hid ((HRm5.out.gone hg6 HNE.out).below hd6)
      have HRy6 := Lib.hid (hr6.below hd6)
      have HVm6 := Lib.hid ((HVm5.out.goneN HRy5.out hg6).below hd6)
      have HVf6 := Lib.hid ((HVf5.out.goneN HRy5.out hg6).below hd6)
      generalize w6a.drew = w6 at *
      have HVy6 : Hid (NodeV w6 (.agg #[.string f.name, .bool f.coll, .int .u8 f.access, .int .i64 f.max, .slice b1 res.1.affs.length l1, .slice b2 res.1.subs.length l2, .slice a3 f.items.length k3, .string f.parent]) res.1) := by
        show NodeV _ _ _
        obtain ⟨_, _, _, e1, hA1, hS1, hI1⟩ := HVf6.out
        obtain ⟨_, _, _, e2, hA2, hS2, hI2⟩ := HVm6.out
        cases e1; cases e2
        have he := HL2.out.2.1 (by trivial)
        exact ⟨_, _, _, by rw [he], by rw [he] at hA2 ⊢; exact hA2, by rw [he] at hS2 ⊢; exact hS2, by rw [he] at hI2 ⊢; exact hI1⟩
      clear hg6 hr6 hd6 y4 y5 z4 z5
      go_wp2_with fail
      (with_reducible refine (HLV.out w6).mono ?_)
      rintro e w7 ⟨rfl, hB7⟩
      have HB7 := Lib.hid (HB6.out.trans (hB7.mono HB6.out.size))
      have HSm := Lib.hid (same_any _ _ res.1 w7 (HVm6.out.below hB7) (HVy6.out.below hB7) HLn.out)
      have m0 := (HRm6.out.below hB7).at 0 _ rfl
      have m1 := (HRm6.out.below hB7).at 1 _ rfl
      have m2 := (HRm6.out.below hB7).at 2 _ rfl
      have m3 := (HRm6.out.below hB7).at 3 _ rfl
      have m4 := (HRm6.out.below hB7).at 4 _ rfl
      have m5 := (HRm6.out.below hB7).at 5 _ rfl
      have m6 := (HRm6.out.below hB7).at 6 _ rfl
      have m7 := (HRm6.out.below hB7).at 7 _ rfl
      have y0 := (HRy6.out.below hB7).at 0 _ rfl
      have y1 := (HRy6.out.below hB7).at 1 _ rfl
      have y2 := (HRy6.out.below hB7).at 2 _ rfl
      have y3 := (HRy6.out.below hB7).at 3 _ rfl
      have y4 := (HRy6.out.below hB7).at 4 _ rfl
      have y5 := (HRy6.out.below hB7).at 5 _ rfl
      have y6 := (HRy6.out.below hB7).at 6 _ rfl
      have y7 := (HRy6.out.below hB7).at 7 _ rfl
      clear hB7
      go_wp2_with fail
      (with_reducible refine HSm.out.mono ?_)
      rintro e w8 ⟨rfl, hB8⟩
      have HB8 := Lib.hid (HB7.out.trans (hB8.mono HB7.out.size))
      clear hB8
      go_wp2_with fail
      go_returns
      exact ⟨rfl, HB8.out⟩
    have e3_ : (xk == 3) = false := beq_eq_false_iff_ne.2 hk3
    have y2 := HRy5.out.at 2 _ rfl
    have z2 := HRy5.out.frozen 2
    have y3 := HRy5.out.at 3 _ rfl
    have z3 := HRy5.out.frozen 3
    have y6 := HRy5.out.at 6 _ rfl
    have z6 := HRy5.out.frozen 6
    have nn2 : ¬ w3.heap.size = w4.heap.size := HNE.out
    have nn1 : ¬ w4.heap.size = w3.heap.size := fun e => HNE.out e.symm
    go_wp2_with fail
    go_region
    obtain ⟨w6a, hw6a⟩ : ∃ w6a, w6a = ((w5.setCell ⟨w4.heap.size, 2, none⟩ (.int .u8 res.1.access)).setCell ⟨w4.heap.size, 3, none⟩ (.int .i64 res.1.max)).setCell ⟨w4.heap.size, 6, none⟩ (.slice b3 res.1.items.length l3) := ⟨_, rfl⟩
    have hg6 : w5.grownBy w6a (some w4.heap.size) := by rw [hw6a]; exact (gTrans (gTrans (grown_set _) (grown_set _)) (grown_set _))
    have hr6 : RowI w6a w4.heap.size 28 8 [.string f.name, .bool f.coll, .int .u8 res.1.access, .int .i64 res.1.max, .slice a1 f.affs.length k1, .slice a2 f.subs.length k2, .slice b3 res.1.items.length l3, .string f.parent] := by rw [hw6a]; exact (((HRy5.out.set 2 (by simp) (.int .u8 res.1.access)).set 3 (by simp) (.int .i64 res.1.max)).set 6 (by simp) (.slice b3 res.1.items.length l3))
    have hd6 : Below w6a.heap.size w6a w6a.drew := (Below.refl _ _).drew
    rw [← hw6a]
    clear hw6a
    have HB6 := Lib.hid ((below_gone HB5.out hg6 HB5.out.size HL5.out).drew)
    have HRm6 := Lib.hid ((HRm5.out.gone hg6 HNE.out).below hd6)
    have HRy6 := Lib.hid (hr6.below hd6)
    have HVm6 := Lib.hid ((HVm5.out.goneN HRy5.out hg6).below hd6)
    have HVf6 := Lib.hid ((HVf5.out.goneN HRy5.out hg6).below hd6)
    generalize w6a.drew = w6 at *
    have HVy6 : Hid (NodeV w6 (.agg #[.string f.name, .bool f.coll, .int .u8 res.1.access, .int .i64 res.1.max, .slice a1 f.affs.length k1, .slice a2 f.subs.length k2, .slice b3 res.1.items.length l3, .string f.parent]) res.1) := by
      show NodeV _ _ _
      obtain ⟨_, _, _, e1, hA1, hS1, hI1⟩ := HVf6.out
      obtain ⟨_, _, _, e2, hA2, hS2, hI2⟩ := HVm6.out
      cases e1; cases e2
      have he := HL2.out.2.2.2 (by omega)
      exact ⟨_, _, _, by rw [he], by rw [he] at hA2 ⊢; exact hA1, by rw [he] at hS2 ⊢; exact hS1, by rw [he] at hI2 ⊢; exact hI2⟩
    clear hg6 hr6 hd6 y2 y3 y6 z2 z3 z6
    go_wp2_with fail
    (with_reducible refine (HLV.out w6).mono ?_)
    rintro e w7 ⟨rfl, hB7⟩
    have HB7 := Lib.hid (HB6.out.trans (hB7.mono HB6.out.size))
    have HSm := Lib.hid (same_any _ _ res.1 w7 (HVm6.out.below hB7) (HVy6.out.below hB7) HLn.out)
    have m0 := (HRm6.out.below hB7).at 0 _ rfl
    have m1 := (HRm6.out.below hB7).at 1 _ rfl
    have m2 := (HRm6.out.below hB7).at 2 _ rfl
    have m3 := (HRm6.out.below hB7).at 3 _ rfl
    have m4 := (HRm6.out.below hB7).at 4 _ rfl
    have m5 := (HRm6.out.below hB7).at 5 _ rfl
    have m6 := (HRm6.out.below hB7).at 6 _ rfl
    have m7 := (HRm6.out.below hB7).at 7 _ rfl
    have y0 := (HRy6.out.below hB7).at 0 _ rfl
    have y1 := (HRy6.out.below hB7).at 1 _ rfl
    have y2 := (HRy6.out.below hB7).at 2 _ rfl
    have y3 := (HRy6.out.below hB7).at 3 _ rfl
    have y4 := (HRy6.out.below hB7).at 4 _ rfl
    have y5 := (HRy6.out.below hB7).at 5 _ rfl
    have y6 := (HRy6.out.below hB7).at 6 _ rfl
    have y7 := (HRy6.out.below hB7).at 7 _ rfl
    clear hB7
    go_wp2_with fail
    (with_reducible refine HSm.out.mono ?_)
    rintro e w8 ⟨rfl, hB8⟩
    have HB8 := Lib.hid (HB7.out.trans (hB8.mono HB7.out.size))
    clear hB8
    go_wp2_with fail
    go_returns
    exact ⟨rfl, HB8.out⟩
  · have hcb : (res.2 != 0) = true := by rw [bne_iff_ne]; exact hc
    generalize res.2 = code at *
    go_wp2_with fail
    (with_reducible refine (HLV.out w4).mono ?_)
    rintro e w5 ⟨rfl, hB5⟩
    have HB5 := Lib.hid (HB4.out.trans (hB5.mono HB4.out.size))
    clear hB5
    go_wp2_with fail
    go_returns
    exact ⟨rfl, HB5.out⟩
end Go.Proofs.Ytpjaopcgoaannaa
