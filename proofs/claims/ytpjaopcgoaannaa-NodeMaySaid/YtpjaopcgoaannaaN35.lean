/- NodeMay: the walk. Written by gen_n35.py. -/
import Derived.Test.YtpjaopcgoaannaaN23
import Derived.Test.YtpjaopcgoaannaaN32
import Derived.Test.YtpjaopcgoaannaaN33
import Derived.Test.YtpjaopcgoaannaaN34
import Derived.Test.YtpjaopcgoaannaaN40
namespace Go.Proofs.Ytpjaopcgoaannaa
open Go.RowKit Go.Lib
open Hb

set_option maxRecDepth 100000 in
set_option maxHeartbeats 8000000 in
theorem nodeMay_row (w : World) (v : Value) (n : PNode) (hv : NodeV w v n) (hn : SmN n) (x : PEdit) (hx : SmX x) :
    Calls Try.prog 5 #[v, .agg x.enc.toArray] w fun e w' => e = .returned (.bool true) ∧ Below w.heap.size w w' := by
  obtain ⟨xk, xb, xw, xd, xm, xy, xr, xa, xi, xt⟩ := x
  have hv0 := hv
  obtain ⟨A, S, I, rfl, hA, hS, hI⟩ := hv
  obtain ⟨aA, cA, rfl⟩ := hA.form
  obtain ⟨aS, cS, rfl⟩ := hS.form
  obtain ⟨aI, cI, rfl⟩ := hI.form
  obtain ⟨W0, hW0, hB0, hr1, hr2, hs⟩ := two w 28 43 [.string n.name, .bool n.coll, .int .u8 n.access, .int .i64 n.max, .slice aA n.affs.length cA, .slice aS n.subs.length cS, .slice aI n.items.length cI, .string n.parent] [.int .i64 xk, .string xb, .string xw, .int .i64 xd, .int .i64 xm, .bool xy, .int .u8 xr, .int .u8 xa, .string xi, .string xt]
  have hfew := few_any _ n W0 (hv0.below hB0)
  have hbf : Bd (fewN n) := hn.few
  generalize fewN n = f at hfew hbf
  have HFw := Lib.hid hfew
  have HD := Lib.hid hbf
  have HX := Lib.hid hx
  have HW := Lib.hid hW0
  have HB := Lib.hid hB0
  have HR := Lib.hid hr1
  have HE := Lib.hid hr2
  have c0 := hr1.at 0 _ rfl
  have c1 := hr1.at 1 _ rfl
  have c2 := hr1.at 2 _ rfl
  have c3 := hr1.at 3 _ rfl
  have c4 := hr1.at 4 _ rfl
  have c5 := hr1.at 5 _ rfl
  have c6 := hr1.at 6 _ rfl
  have c7 := hr1.at 7 _ rfl
  clear hW0 hB0 hr1 hr2 hs hA hS hI hv0 hn hx hfew hbf
  unfold PEdit.enc
  go_enter Try.func5, Try.ntmps5
  go_upto_region 1 with fail
  rw [HW.out]
  clear HW
  go_wp2_with fail
  (with_reducible refine HFw.out.mono ?_)
  rintro e w1 ⟨v1, rfl, hv1, hB1⟩
  have hv1' := hv1
  obtain ⟨A1, S1, I1, rfl, hA1, hS1, hI1⟩ := hv1
  obtain ⟨a1, k1, rfl⟩ := hA1.form
  obtain ⟨a2, k2, rfl⟩ := hS1.form
  obtain ⟨a3, k3, rfl⟩ := hI1.form
  have hR1 := HR.out.below hB1
  obtain ⟨w2, st2, hr2, hg2, _⟩ := run_store_row (P := Try.prog) hR1 28 [.string f.name, .bool f.coll, .int .u8 f.access, .int .i64 f.max, .slice a1 f.affs.length k1, .slice a2 f.subs.length k2, .slice a3 f.items.length k3, .string f.parent] (sizeNode w1) rfl rfl (node_one _ _ _ _ _ _ _ _ rfl rfl rfl)
  have HV2 := Lib.hid (hv1'.goneN hR1 hg2)
  have HB2 := Lib.hid (below_gone (HB.out.trans (hB1.mono HB.out.size)) hg2 (Nat.le_trans HB.out.size hB1.size) (Nat.le_refl _))
  have HR2 := Lib.hid hr2
  have HE2 := Lib.hid ((HE.out.below hB1).gone hg2 (by omega))
  have HST2 := Lib.hid st2
  have HDo := Lib.hid (do_any _ f ⟨xk, xb, xw, xd, xm, xy, xr, xa, xi, xt⟩ w2 HV2.out HD.out HX.out)
  have p0 := HR2.out.at 0 _ rfl
  have p1 := HR2.out.at 1 _ rfl
  have p2 := HR2.out.at 2 _ rfl
  have p3 := HR2.out.at 3 _ rfl
  have p4 := HR2.out.at 4 _ rfl
  have p5 := HR2.out.at 5 _ rfl
  have p6 := HR2.out.at 6 _ rfl
  have p7 := HR2.out.at 7 _ rfl
  have d0 := HE2.out.at 0 _ rfl
  have d1 := HE2.out.at 1 _ rfl
  have d2 := HE2.out.at 2 _ rfl
  have d3 := HE2.out.at 3 _ rfl
  have d4 := HE2.out.at 4 _ rfl
  have d5 := HE2.out.at 5 _ rfl
  have d6 := HE2.out.at 6 _ rfl
  have d7 := HE2.out.at 7 _ rfl
  have d8 := HE2.out.at 8 _ rfl
  have d9 := HE2.out.at 9 _ rfl
  clear st2 hr2 hg2 hR1 hv1' hA1 hS1 hI1 hB1 HFw
  unfold PEdit.enc at HDo
  go_wp2_with (refine wpList_store_run _ rfl 28 _ _ rfl _ _ rfl rfl HST2.out ?_)
  (with_reducible refine HDo.out.mono ?_)
  rintro e w3 ⟨v3, rfl, hv3, hB3⟩
  have hlaw := may_law (p := pr) (n := f) (x := ⟨xk, xb, xw, xd, xm, xy, xr, xa, xi, xt⟩)
  generalize hres : doN pr f ⟨xk, xb, xw, xd, xm, xy, xr, xa, xi, xt⟩ = res at *
  obtain ⟨A3, S3, I3, rfl, hA3, hS3, hI3⟩ := hv3
  obtain ⟨b1, l1, rfl⟩ := hA3.form
  obtain ⟨b2, l2, rfl⟩ := hS3.form
  obtain ⟨b3, l3, rfl⟩ := hI3.form
  obtain ⟨w4, hw4, hB4, hr4, hs4⟩ := one w3 28 [.string res.1.name, .bool res.1.coll, .int .u8 res.1.access, .int .i64 res.1.max, .slice b1 res.1.affs.length l1, .slice b2 res.1.subs.length l2, .slice b3 res.1.items.length l3, .string res.1.parent]
  have hB24 := hB3.trans (hB4.mono hB3.size)
  have HV4 : Hid (NodeV w4 (.agg #[.string res.1.name, .bool res.1.coll, .int .u8 res.1.access, .int .i64 res.1.max, .slice b1 res.1.affs.length l1, .slice b2 res.1.subs.length l2, .slice b3 res.1.items.length l3, .string res.1.parent]) res.1) := NodeV.below ⟨_, _, _, rfl, hA3, hS3, hI3⟩ hB4
  have HF4 := Lib.hid (HV2.out.below hB24)
  have HB4 := Lib.hid (HB2.out.trans (hB24.mono HB2.out.size))
  have HR4 := Lib.hid hr4
  have HN4 := Lib.hid (HR2.out.below hB24)
  have HE4 := Lib.hid (HE2.out.below hB24)
  have HW4 := Lib.hid hw4
  have hLaw : Hid (res.2 = 0 → ((xk = 4 ∨ xk = 5) → 4 ≤ roleN f xb) ∧ ((xk = 2 ∨ xk = 3 ∨ xk < 0 ∨ 5 < xk) → roleN f xb = 5)) := hlaw
  have HRo := Lib.hid (role_any _ f xb w4 HF4.out (by have := HD.out.affs; omega))
  have p0 := HN4.out.at 0 _ rfl
  have p1 := HN4.out.at 1 _ rfl
  have p2 := HN4.out.at 2 _ rfl
  have p3 := HN4.out.at 3 _ rfl
  have p4 := HN4.out.at 4 _ rfl
  have p5 := HN4.out.at 5 _ rfl
  have p6 := HN4.out.at 6 _ rfl
  have p7 := HN4.out.at 7 _ rfl
  have d0 := HE4.out.at 0 _ rfl
  have d1 := HE4.out.at 1 _ rfl
  have d2 := HE4.out.at 2 _ rfl
  have d3 := HE4.out.at 3 _ rfl
  have d4 := HE4.out.at 4 _ rfl
  have d5 := HE4.out.at 5 _ rfl
  have d6 := HE4.out.at 6 _ rfl
  have d7 := HE4.out.at 7 _ rfl
  have d8 := HE4.out.at 8 _ rfl
  have d9 := HE4.out.at 9 _ rfl
  clear hres hw4 hr4 hs4 hB24 hB4 hB3 hA3 hS3 hI3 HDo HR HE HV2 HR2 HE2 HST2 hlaw
  generalize roleN f xb = rl at *
  generalize res.2 = code at *
  go_upto_region 3 with fail
  rw [HW4.out]
  clear HW4
  go_wp2_with fail
  (with_reducible refine HRo.out.mono ?_)
  rintro e w5 ⟨rfl, hB5⟩
  have HB5 := Lib.hid (HB4.out.trans (hB5.mono HB4.out.size))
  have HLV := Lib.hid (live_any)
  have g0 := (HE4.out.below hB5).at 0 _ rfl
  clear hB5 HRo p0 p1 p2 p3 p4 p5 p6 p7 d0 d1 d2 d3 d4 d5 d6 d7 d8 d9
  by_cases hk4 : xk = 4
  · subst hk4
    cases hd : decide (4 ≤ rl) with
    | true =>
      clear hLaw
      go_wp2_with fail
      (with_reducible refine (HLV.out _).mono ?_)
      rintro e w6 ⟨rfl, hB6⟩
      have HB6 := Lib.hid (HB5.out.trans (hB6.mono HB5.out.size))
      clear hB6
      go_wp2_with fail
      go_returns
      exact ⟨rfl, HB6.out⟩
    | false =>
      have hcode : (code != 0) = true := by
        rw [bne_iff_ne]
        intro h0
        have := (hLaw.out h0).1 (by omega)
        simp [this] at hd
        try omega
      clear hLaw
      go_wp2_with fail
      (with_reducible refine (HLV.out _).mono ?_)
      rintro e w6 ⟨rfl, hB6⟩
      have HB6 := Lib.hid (HB5.out.trans (hB6.mono HB5.out.size))
      clear hB6
      go_wp2_with fail
      go_returns
      exact ⟨rfl, HB6.out⟩
  have e4 : (xk == 4) = false := beq_eq_false_iff_ne.2 hk4
  by_cases hk5 : xk = 5
  · subst hk5
    cases hd : decide (4 ≤ rl) with
    | true =>
      clear hLaw
      go_wp2_with fail
      (with_reducible refine (HLV.out _).mono ?_)
      rintro e w6 ⟨rfl, hB6⟩
      have HB6 := Lib.hid (HB5.out.trans (hB6.mono HB5.out.size))
      clear hB6
      go_wp2_with fail
      go_returns
      exact ⟨rfl, HB6.out⟩
    | false =>
      have hcode : (code != 0) = true := by
        rw [bne_iff_ne]
        intro h0
        have := (hLaw.out h0).1 (by omega)
        simp [this] at hd
        try omega
      clear hLaw
      go_wp2_with fail
      (with_reducible refine (HLV.out _).mono ?_)
      rintro e w6 ⟨rfl, hB6⟩
      have HB6 := Lib.hid (HB5.out.trans (hB6.mono HB5.out.size))
      clear hB6
      go_wp2_with fail
      go_returns
      exact ⟨rfl, HB6.out⟩
  have e5 : (xk == 5) = false := beq_eq_false_iff_ne.2 hk5
  by_cases hk2 : xk = 2
  · subst hk2
    cases hd : (rl == 5) with
    | true =>
      clear hLaw
      go_wp2_with fail
      (with_reducible refine (HLV.out _).mono ?_)
      rintro e w6 ⟨rfl, hB6⟩
      have HB6 := Lib.hid (HB5.out.trans (hB6.mono HB5.out.size))
      clear hB6
      go_wp2_with fail
      go_returns
      exact ⟨rfl, HB6.out⟩
    | false =>
      have hcode : (code != 0) = true := by
        rw [bne_iff_ne]
        intro h0
        have := (hLaw.out h0).2 (by omega)
        simp [this] at hd
        try omega
      clear hLaw
      go_wp2_with fail
      (with_reducible refine (HLV.out _).mono ?_)
      rintro e w6 ⟨rfl, hB6⟩
      have HB6 := Lib.hid (HB5.out.trans (hB6.mono HB5.out.size))
      clear hB6
      go_wp2_with fail
      go_returns
      exact ⟨rfl, HB6.out⟩
  have e2 : (xk == 2) = false := beq_eq_false_iff_ne.2 hk2
  by_cases hk3 : xk = 3
  · subst hk3
    cases hd : (rl == 5) with
    | true =>
      clear hLaw
      go_wp2_with fail
      (with_reducible refine (HLV.out _).mono ?_)
      rintro e w6 ⟨rfl, hB6⟩
      have HB6 := Lib.hid (HB5.out.trans (hB6.mono HB5.out.size))
      clear hB6
      go_wp2_with fail
      go_returns
      exact ⟨rfl, HB6.out⟩
    | false =>
      have hcode : (code != 0) = true := by
        rw [bne_iff_ne]
        intro h0
        have := (hLaw.out h0).2 (by omega)
        simp [this] at hd
        try omega
      clear hLaw
      go_wp2_with fail
      (with_reducible refine (HLV.out _).mono ?_)
      rintro e w6 ⟨rfl, hB6⟩
      have HB6 := Lib.hid (HB5.out.trans (hB6.mono HB5.out.size))
      clear hB6
      go_wp2_with fail
      go_returns
      exact ⟨rfl, HB6.out⟩
  have e3 : (xk == 3) = false := beq_eq_false_iff_ne.2 hk3
  by_cases hk0 : xk = 0
  · subst hk0
    clear hLaw
    go_wp2_with fail
    (with_reducible refine (HLV.out _).mono ?_)
    rintro e w6 ⟨rfl, hB6⟩
    have HB6 := Lib.hid (HB5.out.trans (hB6.mono HB5.out.size))
    clear hB6
    go_wp2_with fail
    go_returns
    exact ⟨rfl, HB6.out⟩
  have e0 : (xk == 0) = false := beq_eq_false_iff_ne.2 hk0
  by_cases hk1 : xk = 1
  · subst hk1
    clear hLaw
    go_wp2_with fail
    (with_reducible refine (HLV.out _).mono ?_)
    rintro e w6 ⟨rfl, hB6⟩
    have HB6 := Lib.hid (HB5.out.trans (hB6.mono HB5.out.size))
    clear hB6
    go_wp2_with fail
    go_returns
    exact ⟨rfl, HB6.out⟩
  have e1 : (xk == 1) = false := beq_eq_false_iff_ne.2 hk1
  by_cases hk : xk < 0
  · have e6 : decide (xk < 0) = true := decide_eq_true hk
    cases hd : (rl == 5) with
    | true =>
      clear hLaw
      go_wp2_with fail
      (with_reducible refine (HLV.out _).mono ?_)
      rintro e w6 ⟨rfl, hB6⟩
      have HB6 := Lib.hid (HB5.out.trans (hB6.mono HB5.out.size))
      clear hB6
      go_wp2_with fail
      go_returns
      exact ⟨rfl, HB6.out⟩
    | false =>
      have hcode : (code != 0) = true := by
        rw [bne_iff_ne]
        intro h0
        have := (hLaw.out h0).2 (by omega)
        simp [this] at hd
        try omega
      clear hLaw
      go_wp2_with fail
      (with_reducible refine (HLV.out _).mono ?_)
      rintro e w6 ⟨rfl, hB6⟩
      have HB6 := Lib.hid (HB5.out.trans (hB6.mono HB5.out.size))
      clear hB6
      go_wp2_with fail
      go_returns
      exact ⟨rfl, HB6.out⟩
  have e6 : decide (xk < 0) = false := decide_eq_false hk
  have e7 : decide (5 < xk) = true := decide_eq_true (by omega)
  cases hd : (rl == 5) with
  | true =>
    clear hLaw
    go_wp2_with fail
    (with_reducible refine (HLV.out _).mono ?_)
    rintro e w6 ⟨rfl, hB6⟩
    have HB6 := Lib.hid (HB5.out.trans (hB6.mono HB5.out.size))
    clear hB6
    go_wp2_with fail
    go_returns
    exact ⟨rfl, HB6.out⟩
  | false =>
    have hcode : (code != 0) = true := by
      rw [bne_iff_ne]
      intro h0
      have := (hLaw.out h0).2 (by omega)
      simp [this] at hd
      try omega
    clear hLaw
    go_wp2_with fail
    (with_reducible refine (HLV.out _).mono ?_)
    rintro e w6 ⟨rfl, hB6⟩
    have HB6 := Lib.hid (HB5.out.trans (hB6.mono HB5.out.size))
    clear hB6
    go_wp2_with fail
    go_returns
    exact ⟨rfl, HB6.out⟩
end Go.Proofs.Ytpjaopcgoaannaa
