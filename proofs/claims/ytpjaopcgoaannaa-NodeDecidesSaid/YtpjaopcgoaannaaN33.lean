/- do: an edit by its kind. Written by gen_n33.py. -/
import Derived.Test.YtpjaopcgoaannaaN22
import Derived.Test.YtpjaopcgoaannaaN27
import Derived.Test.YtpjaopcgoaannaaN28
import Derived.Test.YtpjaopcgoaannaaN29
import Derived.Test.YtpjaopcgoaannaaN30
import Derived.Test.YtpjaopcgoaannaaN31
namespace Go.Proofs.Ytpjaopcgoaannaa
open Go.RowKit Go.Lib
open Hb

set_option maxRecDepth 100000 in
set_option maxHeartbeats 8000000 in
theorem do_any (v : Value) (n : PNode) (x : PEdit) (w : World) (hv : NodeV w v n) (hbd : Bd n) (hx : SmX x) :
    Calls Try.prog 12 #[v, .agg x.enc.toArray] w fun e w' => ∃ v', e = .returned (.tuple #[v', .int .i64 (doN pr n x).2]) ∧ NodeV w' v' (doN pr n x).1 ∧ Below w.heap.size w w' := by
  obtain ⟨xk, xb, xw, xd, xm, xy, xr, xa, xi, xt⟩ := x
  have hv0 := hv
  obtain ⟨A, S, I, rfl, hA, hS, hI⟩ := hv
  obtain ⟨aA, cA, rfl⟩ := hA.form
  obtain ⟨aS, cS, rfl⟩ := hS.form
  obtain ⟨aI, cI, rfl⟩ := hI.form
  obtain ⟨W0, hW0, hB0, hr1, hr2, hs⟩ := two w 28 43 [.string n.name, .bool n.coll, .int .u8 n.access, .int .i64 n.max, .slice aA n.affs.length cA, .slice aS n.subs.length cS, .slice aI n.items.length cI, .string n.parent] [.int .i64 xk, .string xb, .string xw, .int .i64 xd, .int .i64 xm, .bool xy, .int .u8 xr, .int .u8 xa, .string xi, .string xt]
  obtain ⟨W1, hW1, hBx, hr3, hs1⟩ := one W0 28 [.string ⟨#[]⟩, .bool false, .int .u8 0, .int .i64 0, .slice none 0 0, .slice none 0 0, .slice none 0 0, .string ⟨#[]⟩]
  have hB1 := hB0.trans (hBx.mono hB0.size)
  have HW : Hid (((w.alloc (.cells #[.string n.name, .bool n.coll, .int .u8 n.access, .int .i64 n.max, .slice aA n.affs.length cA, .slice aS n.subs.length cS, .slice aI n.items.length cI, .string n.parent] 28)).alloc (.cells #[.int .i64 xk, .string xb, .string xw, .int .i64 xd, .int .i64 xm, .bool xy, .int .u8 xr, .int .u8 xa, .string xi, .string xt] 43)).alloc (.cells #[.string ⟨#[]⟩, .bool false, .int .u8 0, .int .i64 0, .slice none 0 0, .slice none 0 0, .slice none 0 0, .string ⟨#[]⟩] 28) = W1) := by rw [← hW1, ← hW0]; rfl
  have HL : Hid (w.heap.size ≤ W0.heap.size) := by show _ ≤ _; omega
  rw [show W0.heap.size = w.heap.size + 1 + 1 from hs] at hr3 HL
  have hrn := hr1.below hBx
  have hre := hr2.below hBx
  have c0 := hrn.at 0 _ rfl
  have c1 := hrn.at 1 _ rfl
  have c2 := hrn.at 2 _ rfl
  have c3 := hrn.at 3 _ rfl
  have c4 := hrn.at 4 _ rfl
  have c5 := hrn.at 5 _ rfl
  have c6 := hrn.at 6 _ rfl
  have c7 := hrn.at 7 _ rfl
  have d0 := hre.at 0 _ rfl
  have d1 := hre.at 1 _ rfl
  have d2 := hre.at 2 _ rfl
  have d3 := hre.at 3 _ rfl
  have d4 := hre.at 4 _ rfl
  have d5 := hre.at 5 _ rfl
  have d6 := hre.at 6 _ rfl
  have d7 := hre.at 7 _ rfl
  have d8 := hre.at 8 _ rfl
  have d9 := hre.at 9 _ rfl
  have HB := Lib.hid hB1
  have HR3 := Lib.hid hr3
  clear hW0 hB0 hr1 hr2 hs hW1 hBx hr3 hs1 hrn hre
  unfold PEdit.enc
  go_enter Try.func12, Try.ntmps12
  go_upto_region 1 with fail
  rw [HW.out]
  clear HW
  by_cases k0 : xk = 0
  · have e0 : (xk == 0) = true := beq_iff_eq.2 k0
    clear k0
    have HC : Hid (Calls Try.prog 28 #[.agg #[.string n.name, .bool n.coll, .int .u8 n.access, .int .i64 n.max, .slice aA n.affs.length cA, .slice aS n.subs.length cS, .slice aI n.items.length cI, .string n.parent], .string xw, .int .i64 xd] W1 fun e w' => ∃ v', e = .returned (.tuple #[v', .int .i64 (subscribeN pr n xw xd).2]) ∧ NodeV w' v' (subscribeN pr n xw xd).1 ∧ Below W1.heap.size W1 w') := subscribe_any _ n xw xd W1 (hv0.below hB1) hbd hx.who
    have HQ : Hid (doN pr n ⟨xk, xb, xw, xd, xm, xy, xr, xa, xi, xt⟩ = subscribeN pr n xw xd) := by show _ = _; unfold doN; rw [if_pos (by show (xk == 0) = true; rw [e0])]
    clear hv0 hbd hx hA hS hI hB1
    go_wp2_with fail
    (with_reducible refine HC.out.mono ?_)
    rintro e w2 ⟨v2, rfl, hv2, hB2⟩
    rw [← HQ.out] at hv2
    have HQ2 := Lib.hid (congrArg Prod.snd HQ.out)
    generalize hres : doN pr n ⟨xk, xb, xw, xd, xm, xy, xr, xa, xi, xt⟩ = res at *
    have HRES := Lib.hid hres
    clear hres
    generalize (subscribeN pr n xw xd).2 = code at HQ2
    obtain ⟨A2, S2, I2, rfl, hA2, hS2, hI2⟩ := hv2
    obtain ⟨a1, k1, rfl⟩ := hA2.form
    obtain ⟨a2, k2, rfl⟩ := hS2.form
    obtain ⟨a3, k3, rfl⟩ := hI2.form
    have hR2 := HR3.out.below hB2
    obtain ⟨w3, hst, hr, hg, _⟩ := run_store_row (P := Try.prog) hR2 28 [.string res.1.name, .bool res.1.coll, .int .u8 res.1.access, .int .i64 res.1.max, .slice a1 res.1.affs.length k1, .slice a2 res.1.subs.length k2, .slice a3 res.1.items.length k3, .string res.1.parent] (sizeNode w2) rfl rfl (node_one _ _ _ _ _ _ _ _ rfl rfl rfl)
    have hv2 : NodeV w2 _ res.1 := ⟨_, _, _, rfl, hA2, hS2, hI2⟩
    have HV3 := Lib.hid (hv2.goneN hR2 hg)
    have HB3 := Lib.hid (below_gone (HB.out.trans (hB2.mono HB.out.size)) hg (Nat.le_trans HB.out.size hB2.size) HL.out)
    have HST := Lib.hid hst
    have r0 := hr.at 0 _ rfl
    have r1 := hr.at 1 _ rfl
    have r2 := hr.at 2 _ rfl
    have r3 := hr.at 3 _ rfl
    have r4 := hr.at 4 _ rfl
    have r5 := hr.at 5 _ rfl
    have r6 := hr.at 6 _ rfl
    have r7 := hr.at 7 _ rfl
    clear hst hr hg hR2 hv2 hA2 hS2 hI2 hB2
    go_wp2_with (refine wpList_store_run _ rfl 28 _ _ rfl _ _ rfl rfl HST.out ?_)
    refine bodyPost_ret (by simp [results, Try.results12, go_sem, r0, r1, r2, r3, r4, r5, r6, r7]; try rfl) rfl ?_
    exact ⟨_, by rw [HRES.out, HQ2.out], by rw [HRES.out]; exact HV3.out, HB3.out⟩
  have e0 : (xk == 0) = false := beq_eq_false_iff_ne.2 k0
  clear k0
  by_cases k1 : xk = 1
  · have e1 : (xk == 1) = true := beq_iff_eq.2 k1
    clear k1
    have HC : Hid (Calls Try.prog 30 #[.agg #[.string n.name, .bool n.coll, .int .u8 n.access, .int .i64 n.max, .slice aA n.affs.length cA, .slice aS n.subs.length cS, .slice aI n.items.length cI, .string n.parent], .string xw] W1 fun e w' => ∃ v', e = .returned (.tuple #[v', .int .i64 (unsubscribeN pr n xw).2]) ∧ NodeV w' v' (unsubscribeN pr n xw).1 ∧ Below W1.heap.size W1 w') := unsubscribe_any _ n xw W1 (hv0.below hB1) hbd
    have HQ : Hid (doN pr n ⟨xk, xb, xw, xd, xm, xy, xr, xa, xi, xt⟩ = unsubscribeN pr n xw) := by show _ = _; unfold doN; rw [if_neg (by show ¬ ((xk == 0) = true); rw [e0]; decide)]; rw [if_pos (by show (xk == 1) = true; rw [e1])]
    clear hv0 hbd hx hA hS hI hB1
    go_wp2_with fail
    (with_reducible refine HC.out.mono ?_)
    rintro e w2 ⟨v2, rfl, hv2, hB2⟩
    rw [← HQ.out] at hv2
    have HQ2 := Lib.hid (congrArg Prod.snd HQ.out)
    generalize hres : doN pr n ⟨xk, xb, xw, xd, xm, xy, xr, xa, xi, xt⟩ = res at *
    have HRES := Lib.hid hres
    clear hres
    generalize (unsubscribeN pr n xw).2 = code at HQ2
    obtain ⟨A2, S2, I2, rfl, hA2, hS2, hI2⟩ := hv2
    obtain ⟨a1, k1, rfl⟩ := hA2.form
    obtain ⟨a2, k2, rfl⟩ := hS2.form
    obtain ⟨a3, k3, rfl⟩ := hI2.form
    have hR2 := HR3.out.below hB2
    obtain ⟨w3, hst, hr, hg, _⟩ := run_store_row (P := Try.prog) hR2 28 [.string res.1.name, .bool res.1.coll, .int .u8 res.1.access, .int .i64 res.1.max, .slice a1 res.1.affs.length k1, .slice a2 res.1.subs.length k2, .slice a3 res.1.items.length k3, .string res.1.parent] (sizeNode w2) rfl rfl (node_one _ _ _ _ _ _ _ _ rfl rfl rfl)
    have hv2 : NodeV w2 _ res.1 := ⟨_, _, _, rfl, hA2, hS2, hI2⟩
    have HV3 := Lib.hid (hv2.goneN hR2 hg)
    have HB3 := Lib.hid (below_gone (HB.out.trans (hB2.mono HB.out.size)) hg (Nat.le_trans HB.out.size hB2.size) HL.out)
    have HST := Lib.hid hst
    have r0 := hr.at 0 _ rfl
    have r1 := hr.at 1 _ rfl
    have r2 := hr.at 2 _ rfl
    have r3 := hr.at 3 _ rfl
    have r4 := hr.at 4 _ rfl
    have r5 := hr.at 5 _ rfl
    have r6 := hr.at 6 _ rfl
    have r7 := hr.at 7 _ rfl
    clear hst hr hg hR2 hv2 hA2 hS2 hI2 hB2
    go_wp2_with (refine wpList_store_run _ rfl 28 _ _ rfl _ _ rfl rfl HST.out ?_)
    refine bodyPost_ret (by simp [results, Try.results12, go_sem, r0, r1, r2, r3, r4, r5, r6, r7]; try rfl) rfl ?_
    exact ⟨_, by rw [HRES.out, HQ2.out], by rw [HRES.out]; exact HV3.out, HB3.out⟩
  have e1 : (xk == 1) = false := beq_eq_false_iff_ne.2 k1
  clear k1
  by_cases k2 : xk = 2
  · have e2 : (xk == 2) = true := beq_iff_eq.2 k2
    clear k2
    have HC : Hid (Calls Try.prog 17 #[.agg #[.string n.name, .bool n.coll, .int .u8 n.access, .int .i64 n.max, .slice aA n.affs.length cA, .slice aS n.subs.length cS, .slice aI n.items.length cI, .string n.parent], .string xb, .string xw, .bool xy] W1 fun e w' => ∃ v', e = .returned (.tuple #[v', .int .i64 (decideN pr n xb xw xy).2]) ∧ NodeV w' v' (decideN pr n xb xw xy).1 ∧ Below W1.heap.size W1 w') := decide_any _ n xb xw xy W1 (hv0.below hB1) hbd
    have HQ : Hid (doN pr n ⟨xk, xb, xw, xd, xm, xy, xr, xa, xi, xt⟩ = decideN pr n xb xw xy) := by show _ = _; unfold doN; rw [if_neg (by show ¬ ((xk == 0) = true); rw [e0]; decide)]; rw [if_neg (by show ¬ ((xk == 1) = true); rw [e1]; decide)]; rw [if_pos (by show (xk == 2) = true; rw [e2])]
    clear hv0 hbd hx hA hS hI hB1
    go_wp2_with fail
    (with_reducible refine HC.out.mono ?_)
    rintro e w2 ⟨v2, rfl, hv2, hB2⟩
    rw [← HQ.out] at hv2
    have HQ2 := Lib.hid (congrArg Prod.snd HQ.out)
    generalize hres : doN pr n ⟨xk, xb, xw, xd, xm, xy, xr, xa, xi, xt⟩ = res at *
    have HRES := Lib.hid hres
    clear hres
    generalize (decideN pr n xb xw xy).2 = code at HQ2
    obtain ⟨A2, S2, I2, rfl, hA2, hS2, hI2⟩ := hv2
    obtain ⟨a1, k1, rfl⟩ := hA2.form
    obtain ⟨a2, k2, rfl⟩ := hS2.form
    obtain ⟨a3, k3, rfl⟩ := hI2.form
    have hR2 := HR3.out.below hB2
    obtain ⟨w3, hst, hr, hg, _⟩ := run_store_row (P := Try.prog) hR2 28 [.string res.1.name, .bool res.1.coll, .int .u8 res.1.access, .int .i64 res.1.max, .slice a1 res.1.affs.length k1, .slice a2 res.1.subs.length k2, .slice a3 res.1.items.length k3, .string res.1.parent] (sizeNode w2) rfl rfl (node_one _ _ _ _ _ _ _ _ rfl rfl rfl)
    have hv2 : NodeV w2 _ res.1 := ⟨_, _, _, rfl, hA2, hS2, hI2⟩
    have HV3 := Lib.hid (hv2.goneN hR2 hg)
    have HB3 := Lib.hid (below_gone (HB.out.trans (hB2.mono HB.out.size)) hg (Nat.le_trans HB.out.size hB2.size) HL.out)
    have HST := Lib.hid hst
    have r0 := hr.at 0 _ rfl
    have r1 := hr.at 1 _ rfl
    have r2 := hr.at 2 _ rfl
    have r3 := hr.at 3 _ rfl
    have r4 := hr.at 4 _ rfl
    have r5 := hr.at 5 _ rfl
    have r6 := hr.at 6 _ rfl
    have r7 := hr.at 7 _ rfl
    clear hst hr hg hR2 hv2 hA2 hS2 hI2 hB2
    go_wp2_with (refine wpList_store_run _ rfl 28 _ _ rfl _ _ rfl rfl HST.out ?_)
    refine bodyPost_ret (by simp [results, Try.results12, go_sem, r0, r1, r2, r3, r4, r5, r6, r7]; try rfl) rfl ?_
    exact ⟨_, by rw [HRES.out, HQ2.out], by rw [HRES.out]; exact HV3.out, HB3.out⟩
  have e2 : (xk == 2) = false := beq_eq_false_iff_ne.2 k2
  clear k2
  by_cases k3 : xk = 3
  · have e3 : (xk == 3) = true := beq_iff_eq.2 k3
    clear k3
    have HC : Hid (Calls Try.prog 31 #[.agg #[.string n.name, .bool n.coll, .int .u8 n.access, .int .i64 n.max, .slice aA n.affs.length cA, .slice aS n.subs.length cS, .slice aI n.items.length cI, .string n.parent], .string xb, .string xw, .int .u8 xr] W1 fun e w' => ∃ v', e = .returned (.tuple #[v', .int .i64 (affiliateN pr n xb xw xr).2]) ∧ NodeV w' v' (affiliateN pr n xb xw xr).1 ∧ Below W1.heap.size W1 w') := affiliate_any _ n xb xw xr W1 (hv0.below hB1) hbd hx.who
    have HQ : Hid (doN pr n ⟨xk, xb, xw, xd, xm, xy, xr, xa, xi, xt⟩ = affiliateN pr n xb xw xr) := by show _ = _; unfold doN; rw [if_neg (by show ¬ ((xk == 0) = true); rw [e0]; decide)]; rw [if_neg (by show ¬ ((xk == 1) = true); rw [e1]; decide)]; rw [if_neg (by show ¬ ((xk == 2) = true); rw [e2]; decide)]; rw [if_pos (by show (xk == 3) = true; rw [e3])]
    clear hv0 hbd hx hA hS hI hB1
    go_wp2_with fail
    (with_reducible refine HC.out.mono ?_)
    rintro e w2 ⟨v2, rfl, hv2, hB2⟩
    rw [← HQ.out] at hv2
    have HQ2 := Lib.hid (congrArg Prod.snd HQ.out)
    generalize hres : doN pr n ⟨xk, xb, xw, xd, xm, xy, xr, xa, xi, xt⟩ = res at *
    have HRES := Lib.hid hres
    clear hres
    generalize (affiliateN pr n xb xw xr).2 = code at HQ2
    obtain ⟨A2, S2, I2, rfl, hA2, hS2, hI2⟩ := hv2
    obtain ⟨a1, k1, rfl⟩ := hA2.form
    obtain ⟨a2, k2, rfl⟩ := hS2.form
    obtain ⟨a3, k3, rfl⟩ := hI2.form
    have hR2 := HR3.out.below hB2
    obtain ⟨w3, hst, hr, hg, _⟩ := run_store_row (P := Try.prog) hR2 28 [.string res.1.name, .bool res.1.coll, .int .u8 res.1.access, .int .i64 res.1.max, .slice a1 res.1.affs.length k1, .slice a2 res.1.subs.length k2, .slice a3 res.1.items.length k3, .string res.1.parent] (sizeNode w2) rfl rfl (node_one _ _ _ _ _ _ _ _ rfl rfl rfl)
    have hv2 : NodeV w2 _ res.1 := ⟨_, _, _, rfl, hA2, hS2, hI2⟩
    have HV3 := Lib.hid (hv2.goneN hR2 hg)
    have HB3 := Lib.hid (below_gone (HB.out.trans (hB2.mono HB.out.size)) hg (Nat.le_trans HB.out.size hB2.size) HL.out)
    have HST := Lib.hid hst
    have r0 := hr.at 0 _ rfl
    have r1 := hr.at 1 _ rfl
    have r2 := hr.at 2 _ rfl
    have r3 := hr.at 3 _ rfl
    have r4 := hr.at 4 _ rfl
    have r5 := hr.at 5 _ rfl
    have r6 := hr.at 6 _ rfl
    have r7 := hr.at 7 _ rfl
    clear hst hr hg hR2 hv2 hA2 hS2 hI2 hB2
    go_wp2_with (refine wpList_store_run _ rfl 28 _ _ rfl _ _ rfl rfl HST.out ?_)
    refine bodyPost_ret (by simp [results, Try.results12, go_sem, r0, r1, r2, r3, r4, r5, r6, r7]; try rfl) rfl ?_
    exact ⟨_, by rw [HRES.out, HQ2.out], by rw [HRES.out]; exact HV3.out, HB3.out⟩
  have e3 : (xk == 3) = false := beq_eq_false_iff_ne.2 k3
  clear k3
  by_cases k4 : xk = 4
  · have e4 : (xk == 4) = true := beq_iff_eq.2 k4
    clear k4
    have HC : Hid (Calls Try.prog 10 #[.agg #[.string n.name, .bool n.coll, .int .u8 n.access, .int .i64 n.max, .slice aA n.affs.length cA, .slice aS n.subs.length cS, .slice aI n.items.length cI, .string n.parent], .string xb, .string xi, .string xt] W1 fun e w' => ∃ v', e = .returned (.tuple #[v', .int .i64 (publishN pr n xb xi xt).2]) ∧ NodeV w' v' (publishN pr n xb xi xt).1 ∧ Below W1.heap.size W1 w') := publish_any _ n xb xi xt W1 (hv0.below hB1) hbd hx.item hx.text
    have HQ : Hid (doN pr n ⟨xk, xb, xw, xd, xm, xy, xr, xa, xi, xt⟩ = publishN pr n xb xi xt) := by show _ = _; unfold doN; rw [if_neg (by show ¬ ((xk == 0) = true); rw [e0]; decide)]; rw [if_neg (by show ¬ ((xk == 1) = true); rw [e1]; decide)]; rw [if_neg (by show ¬ ((xk == 2) = true); rw [e2]; decide)]; rw [if_neg (by show ¬ ((xk == 3) = true); rw [e3]; decide)]; rw [if_pos (by show (xk == 4) = true; rw [e4])]
    clear hv0 hbd hx hA hS hI hB1
    go_wp2_with fail
    (with_reducible refine HC.out.mono ?_)
    rintro e w2 ⟨v2, rfl, hv2, hB2⟩
    rw [← HQ.out] at hv2
    have HQ2 := Lib.hid (congrArg Prod.snd HQ.out)
    generalize hres : doN pr n ⟨xk, xb, xw, xd, xm, xy, xr, xa, xi, xt⟩ = res at *
    have HRES := Lib.hid hres
    clear hres
    generalize (publishN pr n xb xi xt).2 = code at HQ2
    obtain ⟨A2, S2, I2, rfl, hA2, hS2, hI2⟩ := hv2
    obtain ⟨a1, k1, rfl⟩ := hA2.form
    obtain ⟨a2, k2, rfl⟩ := hS2.form
    obtain ⟨a3, k3, rfl⟩ := hI2.form
    have hR2 := HR3.out.below hB2
    obtain ⟨w3, hst, hr, hg, _⟩ := run_store_row (P := Try.prog) hR2 28 [.string res.1.name, .bool res.1.coll, .int .u8 res.1.access, .int .i64 res.1.max, .slice a1 res.1.affs.length k1, .slice a2 res.1.subs.length k2, .slice a3 res.1.items.length k3, .string res.1.parent] (sizeNode w2) rfl rfl (node_one _ _ _ _ _ _ _ _ rfl rfl rfl)
    have hv2 : NodeV w2 _ res.1 := ⟨_, _, _, rfl, hA2, hS2, hI2⟩
    have HV3 := Lib.hid (hv2.goneN hR2 hg)
    have HB3 := Lib.hid (below_gone (HB.out.trans (hB2.mono HB.out.size)) hg (Nat.le_trans HB.out.size hB2.size) HL.out)
    have HST := Lib.hid hst
    have r0 := hr.at 0 _ rfl
    have r1 := hr.at 1 _ rfl
    have r2 := hr.at 2 _ rfl
    have r3 := hr.at 3 _ rfl
    have r4 := hr.at 4 _ rfl
    have r5 := hr.at 5 _ rfl
    have r6 := hr.at 6 _ rfl
    have r7 := hr.at 7 _ rfl
    clear hst hr hg hR2 hv2 hA2 hS2 hI2 hB2
    go_wp2_with (refine wpList_store_run _ rfl 28 _ _ rfl _ _ rfl rfl HST.out ?_)
    refine bodyPost_ret (by simp [results, Try.results12, go_sem, r0, r1, r2, r3, r4, r5, r6, r7]; try rfl) rfl ?_
    exact ⟨_, by rw [HRES.out, HQ2.out], by rw [HRES.out]; exact HV3.out, HB3.out⟩
  have e4 : (xk == 4) = false := beq_eq_false_iff_ne.2 k4
  clear k4
  by_cases k5 : xk = 5
  · have e5 : (xk == 5) = true := beq_iff_eq.2 k5
    clear k5
    have HC : Hid (Calls Try.prog 32 #[.agg #[.string n.name, .bool n.coll, .int .u8 n.access, .int .i64 n.max, .slice aA n.affs.length cA, .slice aS n.subs.length cS, .slice aI n.items.length cI, .string n.parent], .string xb, .string xi] W1 fun e w' => ∃ v', e = .returned (.tuple #[v', .int .i64 (retractN pr n xb xi).2]) ∧ NodeV w' v' (retractN pr n xb xi).1 ∧ Below W1.heap.size W1 w') := retract_any _ n xb xi W1 (hv0.below hB1) hbd
    have HQ : Hid (doN pr n ⟨xk, xb, xw, xd, xm, xy, xr, xa, xi, xt⟩ = retractN pr n xb xi) := by show _ = _; unfold doN; rw [if_neg (by show ¬ ((xk == 0) = true); rw [e0]; decide)]; rw [if_neg (by show ¬ ((xk == 1) = true); rw [e1]; decide)]; rw [if_neg (by show ¬ ((xk == 2) = true); rw [e2]; decide)]; rw [if_neg (by show ¬ ((xk == 3) = true); rw [e3]; decide)]; rw [if_neg (by show ¬ ((xk == 4) = true); rw [e4]; decide)]; rw [if_pos (by show (xk == 5) = true; rw [e5])]
    clear hv0 hbd hx hA hS hI hB1
    go_wp2_with fail
    (with_reducible refine HC.out.mono ?_)
    rintro e w2 ⟨v2, rfl, hv2, hB2⟩
    rw [← HQ.out] at hv2
    have HQ2 := Lib.hid (congrArg Prod.snd HQ.out)
    generalize hres : doN pr n ⟨xk, xb, xw, xd, xm, xy, xr, xa, xi, xt⟩ = res at *
    have HRES := Lib.hid hres
    clear hres
    generalize (retractN pr n xb xi).2 = code at HQ2
    obtain ⟨A2, S2, I2, rfl, hA2, hS2, hI2⟩ := hv2
    obtain ⟨a1, k1, rfl⟩ := hA2.form
    obtain ⟨a2, k2, rfl⟩ := hS2.form
    obtain ⟨a3, k3, rfl⟩ := hI2.form
    have hR2 := HR3.out.below hB2
    obtain ⟨w3, hst, hr, hg, _⟩ := run_store_row (P := Try.prog) hR2 28 [.string res.1.name, .bool res.1.coll, .int .u8 res.1.access, .int .i64 res.1.max, .slice a1 res.1.affs.length k1, .slice a2 res.1.subs.length k2, .slice a3 res.1.items.length k3, .string res.1.parent] (sizeNode w2) rfl rfl (node_one _ _ _ _ _ _ _ _ rfl rfl rfl)
    have hv2 : NodeV w2 _ res.1 := ⟨_, _, _, rfl, hA2, hS2, hI2⟩
    have HV3 := Lib.hid (hv2.goneN hR2 hg)
    have HB3 := Lib.hid (below_gone (HB.out.trans (hB2.mono HB.out.size)) hg (Nat.le_trans HB.out.size hB2.size) HL.out)
    have HST := Lib.hid hst
    have r0 := hr.at 0 _ rfl
    have r1 := hr.at 1 _ rfl
    have r2 := hr.at 2 _ rfl
    have r3 := hr.at 3 _ rfl
    have r4 := hr.at 4 _ rfl
    have r5 := hr.at 5 _ rfl
    have r6 := hr.at 6 _ rfl
    have r7 := hr.at 7 _ rfl
    clear hst hr hg hR2 hv2 hA2 hS2 hI2 hB2
    go_wp2_with (refine wpList_store_run _ rfl 28 _ _ rfl _ _ rfl rfl HST.out ?_)
    refine bodyPost_ret (by simp [results, Try.results12, go_sem, r0, r1, r2, r3, r4, r5, r6, r7]; try rfl) rfl ?_
    exact ⟨_, by rw [HRES.out, HQ2.out], by rw [HRES.out]; exact HV3.out, HB3.out⟩
  have e5 : (xk == 5) = false := beq_eq_false_iff_ne.2 k5
  clear k5
  by_cases k6 : xk = 6
  · have e6 : (xk == 6) = true := beq_iff_eq.2 k6
    clear k6
    have HC : Hid (Calls Try.prog 33 #[.agg #[.string n.name, .bool n.coll, .int .u8 n.access, .int .i64 n.max, .slice aA n.affs.length cA, .slice aS n.subs.length cS, .slice aI n.items.length cI, .string n.parent], .string xb] W1 fun e w' => ∃ v', e = .returned (.tuple #[v', .int .i64 (purgeN pr n xb).2]) ∧ NodeV w' v' (purgeN pr n xb).1 ∧ Below W1.heap.size W1 w') := purge_any _ n xb W1 (hv0.below hB1) hbd
    have HQ : Hid (doN pr n ⟨xk, xb, xw, xd, xm, xy, xr, xa, xi, xt⟩ = purgeN pr n xb) := by show _ = _; unfold doN; rw [if_neg (by show ¬ ((xk == 0) = true); rw [e0]; decide)]; rw [if_neg (by show ¬ ((xk == 1) = true); rw [e1]; decide)]; rw [if_neg (by show ¬ ((xk == 2) = true); rw [e2]; decide)]; rw [if_neg (by show ¬ ((xk == 3) = true); rw [e3]; decide)]; rw [if_neg (by show ¬ ((xk == 4) = true); rw [e4]; decide)]; rw [if_neg (by show ¬ ((xk == 5) = true); rw [e5]; decide)]; rw [if_pos (by show (xk == 6) = true; rw [e6])]
    clear hv0 hbd hx hA hS hI hB1
    go_wp2_with fail
    (with_reducible refine HC.out.mono ?_)
    rintro e w2 ⟨v2, rfl, hv2, hB2⟩
    rw [← HQ.out] at hv2
    have HQ2 := Lib.hid (congrArg Prod.snd HQ.out)
    generalize hres : doN pr n ⟨xk, xb, xw, xd, xm, xy, xr, xa, xi, xt⟩ = res at *
    have HRES := Lib.hid hres
    clear hres
    generalize (purgeN pr n xb).2 = code at HQ2
    obtain ⟨A2, S2, I2, rfl, hA2, hS2, hI2⟩ := hv2
    obtain ⟨a1, k1, rfl⟩ := hA2.form
    obtain ⟨a2, k2, rfl⟩ := hS2.form
    obtain ⟨a3, k3, rfl⟩ := hI2.form
    have hR2 := HR3.out.below hB2
    obtain ⟨w3, hst, hr, hg, _⟩ := run_store_row (P := Try.prog) hR2 28 [.string res.1.name, .bool res.1.coll, .int .u8 res.1.access, .int .i64 res.1.max, .slice a1 res.1.affs.length k1, .slice a2 res.1.subs.length k2, .slice a3 res.1.items.length k3, .string res.1.parent] (sizeNode w2) rfl rfl (node_one _ _ _ _ _ _ _ _ rfl rfl rfl)
    have hv2 : NodeV w2 _ res.1 := ⟨_, _, _, rfl, hA2, hS2, hI2⟩
    have HV3 := Lib.hid (hv2.goneN hR2 hg)
    have HB3 := Lib.hid (below_gone (HB.out.trans (hB2.mono HB.out.size)) hg (Nat.le_trans HB.out.size hB2.size) HL.out)
    have HST := Lib.hid hst
    have r0 := hr.at 0 _ rfl
    have r1 := hr.at 1 _ rfl
    have r2 := hr.at 2 _ rfl
    have r3 := hr.at 3 _ rfl
    have r4 := hr.at 4 _ rfl
    have r5 := hr.at 5 _ rfl
    have r6 := hr.at 6 _ rfl
    have r7 := hr.at 7 _ rfl
    clear hst hr hg hR2 hv2 hA2 hS2 hI2 hB2
    go_wp2_with (refine wpList_store_run _ rfl 28 _ _ rfl _ _ rfl rfl HST.out ?_)
    refine bodyPost_ret (by simp [results, Try.results12, go_sem, r0, r1, r2, r3, r4, r5, r6, r7]; try rfl) rfl ?_
    exact ⟨_, by rw [HRES.out, HQ2.out], by rw [HRES.out]; exact HV3.out, HB3.out⟩
  have e6 : (xk == 6) = false := beq_eq_false_iff_ne.2 k6
  clear k6
  have HC : Hid (Calls Try.prog 8 #[.agg #[.string n.name, .bool n.coll, .int .u8 n.access, .int .i64 n.max, .slice aA n.affs.length cA, .slice aS n.subs.length cS, .slice aI n.items.length cI, .string n.parent], .string xb, .int .u8 xa, .int .i64 xm] W1 fun e w' => ∃ v', e = .returned (.tuple #[v', .int .i64 (configureN pr n xb xa xm).2]) ∧ NodeV w' v' (configureN pr n xb xa xm).1 ∧ Below W1.heap.size W1 w') := configure_any _ n xb xa xm W1 (hv0.below hB1) hbd
  have HQ : Hid (doN pr n ⟨xk, xb, xw, xd, xm, xy, xr, xa, xi, xt⟩ = configureN pr n xb xa xm) := by show _ = _; unfold doN; rw [if_neg (by show ¬ ((xk == 0) = true); rw [e0]; decide)]; rw [if_neg (by show ¬ ((xk == 1) = true); rw [e1]; decide)]; rw [if_neg (by show ¬ ((xk == 2) = true); rw [e2]; decide)]; rw [if_neg (by show ¬ ((xk == 3) = true); rw [e3]; decide)]; rw [if_neg (by show ¬ ((xk == 4) = true); rw [e4]; decide)]; rw [if_neg (by show ¬ ((xk == 5) = true); rw [e5]; decide)]; rw [if_neg (by show ¬ ((xk == 6) = true); rw [e6]; decide)]; skip
  clear hv0 hbd hx hA hS hI hB1
  go_wp2_with fail
  (with_reducible refine HC.out.mono ?_)
  rintro e w2 ⟨v2, rfl, hv2, hB2⟩
  rw [← HQ.out] at hv2
  have HQ2 := Lib.hid (congrArg Prod.snd HQ.out)
  generalize hres : doN pr n ⟨xk, xb, xw, xd, xm, xy, xr, xa, xi, xt⟩ = res at *
  have HRES := Lib.hid hres
  clear hres
  generalize (configureN pr n xb xa xm).2 = code at HQ2
  obtain ⟨A2, S2, I2, rfl, hA2, hS2, hI2⟩ := hv2
  obtain ⟨a1, k1, rfl⟩ := hA2.form
  obtain ⟨a2, k2, rfl⟩ := hS2.form
  obtain ⟨a3, k3, rfl⟩ := hI2.form
  have hR2 := HR3.out.below hB2
  obtain ⟨w3, hst, hr, hg, _⟩ := run_store_row (P := Try.prog) hR2 28 [.string res.1.name, .bool res.1.coll, .int .u8 res.1.access, .int .i64 res.1.max, .slice a1 res.1.affs.length k1, .slice a2 res.1.subs.length k2, .slice a3 res.1.items.length k3, .string res.1.parent] (sizeNode w2) rfl rfl (node_one _ _ _ _ _ _ _ _ rfl rfl rfl)
  have hv2 : NodeV w2 _ res.1 := ⟨_, _, _, rfl, hA2, hS2, hI2⟩
  have HV3 := Lib.hid (hv2.goneN hR2 hg)
  have HB3 := Lib.hid (below_gone (HB.out.trans (hB2.mono HB.out.size)) hg (Nat.le_trans HB.out.size hB2.size) HL.out)
  have HST := Lib.hid hst
  have r0 := hr.at 0 _ rfl
  have r1 := hr.at 1 _ rfl
  have r2 := hr.at 2 _ rfl
  have r3 := hr.at 3 _ rfl
  have r4 := hr.at 4 _ rfl
  have r5 := hr.at 5 _ rfl
  have r6 := hr.at 6 _ rfl
  have r7 := hr.at 7 _ rfl
  clear hst hr hg hR2 hv2 hA2 hS2 hI2 hB2
  go_wp2_with (refine wpList_store_run _ rfl 28 _ _ rfl _ _ rfl rfl HST.out ?_)
  refine bodyPost_ret (by simp [results, Try.results12, go_sem, r0, r1, r2, r3, r4, r5, r6, r7]; try rfl) rfl ?_
  exact ⟨_, by rw [HRES.out, HQ2.out], by rw [HRES.out]; exact HV3.out, HB3.out⟩
end Go.Proofs.Ytpjaopcgoaannaa
