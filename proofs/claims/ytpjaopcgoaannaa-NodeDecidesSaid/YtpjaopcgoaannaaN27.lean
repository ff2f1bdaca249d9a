/- node.Unsubscribe, node.Purge. Written by gen_n27.py. -/
import Derived.Test.YtpjaopcgoaannaaN21
namespace Go.Proofs.Ytpjaopcgoaannaa
open Go.RowKit Go.Lib
open Hb

set_option maxRecDepth 100000 in
set_option maxHeartbeats 8000000 in
theorem unsubscribe_any (v : Value) (n : PNode) (who : ByteArray) (w : World) (hv : NodeV w v n) (hbd : Bd n) :
    Calls Try.prog 30 #[v, .string who] w fun e w' => ∃ v', e = .returned (.tuple #[v', .int .i64 (unsubscribeN pr n who).2]) ∧ NodeV w' v' (unsubscribeN pr n who).1 ∧ Below w.heap.size w w' := by
  have hv0 := hv
  obtain ⟨A, S, I, rfl, hA, hS, hI⟩ := hv
  obtain ⟨aA, cA, rfl⟩ := hA.form
  obtain ⟨aS, cS, rfl⟩ := hS.form
  obtain ⟨aI, cI, rfl⟩ := hI.form
  obtain ⟨W0, hW0, hB0, hr1, hr2, hs⟩ := two w 28 28 [.string n.name, .bool n.coll, .int .u8 n.access, .int .i64 n.max, .slice aA n.affs.length cA, .slice aS n.subs.length cS, .slice aI n.items.length cI, .string n.parent] [.string ⟨#[]⟩, .bool false, .int .u8 0, .int .i64 0, .slice none 0 0, .slice none 0 0, .slice none 0 0, .string ⟨#[]⟩]
  have HRi : Hid (Calls Try.prog 13 #[.agg #[.string n.name, .bool n.coll, .int .u8 n.access, .int .i64 n.max, .slice aA n.affs.length cA, .slice aS n.subs.length cS, .slice aI n.items.length cI, .string n.parent]] W0 fun e w' => e = .returned (.bool (rightN pr n)) ∧ Below W0.heap.size W0 w') := right_any _ n W0 (hv0.below hB0) hbd
  have HSu : Hid (∀ W, Below w.heap.size w W → Calls Try.prog 16 #[.agg #[.string n.name, .bool n.coll, .int .u8 n.access, .int .i64 n.max, .slice aA n.affs.length cA, .slice aS n.subs.length cS, .slice aI n.items.length cI, .string n.parent], .string who] W fun e w' => e = .returned (.tuple #[.agg #[.string (subN n who).1.jid, .bool (subN n who).1.pending, .int .i64 (subN n who).1.depth], .bool (subN n who).2]) ∧ Below W.heap.size W w') := fun W hW => sub_any _ n who W (hv0.below hW) (by have := hbd.subs; omega)
  have HOn : Hid (∀ W, Below w.heap.size w W → Calls Try.prog 21 #[.agg #[.string n.name, .bool n.coll, .int .u8 n.access, .int .i64 n.max, .slice aA n.affs.length cA, .slice aS n.subs.length cS, .slice aI n.items.length cI, .string n.parent]] W fun e w' => ∃ v', e = .returned v' ∧ NodeO w' W.heap.size v' n ∧ Below W.heap.size W w') := fun W hW => own_any _ n W (hv0.below hW) (by have := hbd.affs; omega) (by have := hbd.subs; omega) (by have := hbd.items; omega)
  have c0 := hr1.at 0 _ rfl
  have c1 := hr1.at 1 _ rfl
  have c2 := hr1.at 2 _ rfl
  have c3 := hr1.at 3 _ rfl
  have c4 := hr1.at 4 _ rfl
  have c5 := hr1.at 5 _ rfl
  have c6 := hr1.at 6 _ rfl
  have c7 := hr1.at 7 _ rfl
  have HW := Lib.hid hW0
  have HB := Lib.hid hB0
  have HR := Lib.hid hr1
  have HR2 := Lib.hid hr2
  have HD := Lib.hid hbd
  have mixed : Try.prog.follows .mixedOrders = true := by kernel_rfl
  clear hW0 hB0 hr1 hr2 hs hv0 hA hS hI hbd
  have HE : Hid (unsubscribeN pr n who = if !rightN pr n then (noNode, 1) else if !(subN n who).2 then (noNode, 10) else ({ n with subs := dropL PSub.jid who n.subs }, 0)) := rfl
  generalize rightN pr n = rt at *
  generalize (subN n who).1.jid = s0 at *
  generalize (subN n who).1.pending = s1 at *
  generalize (subN n who).1.depth = s2 at *
  generalize (subN n who).2 = sb at *
  go_enter Try.func30, Try.ntmps30
  go_upto_region 1 with fail
  rw [HW.out]
  clear HW
  go_wp2_with fail
  (with_reducible refine HRi.out.mono ?_)
  rintro e w1 ⟨rfl, hw1⟩
  have Bw1 := Lib.hid (HB.out.trans (hw1.mono HB.out.size))
  have Rbw1 := Lib.hid (HR.out.below hw1)
  have Rrw1 := Lib.hid (HR2.out.below hw1)
  have p0 := Rbw1.out.at 0 _ rfl
  have p1 := Rbw1.out.at 1 _ rfl
  have p2 := Rbw1.out.at 2 _ rfl
  have p3 := Rbw1.out.at 3 _ rfl
  have p4 := Rbw1.out.at 4 _ rfl
  have p5 := Rbw1.out.at 5 _ rfl
  have p6 := Rbw1.out.at 6 _ rfl
  have p7 := Rbw1.out.at 7 _ rfl
  cases rt with
  | false =>
    have HC : Hid (unsubscribeN pr n who = (noNode, 1)) := by show _ = _; rw [HE.out]; rfl
    clear HE
    go_wp2_with fail
    (with_reducible refine (refused_any 1 w1).mono ?_)
    rintro e wr ⟨vr, rfl, hvr, hBr⟩
    obtain ⟨Ar, Sr, Ir, rfl, hAr, hSr, hIr⟩ := hvr
    have HVr := Lib.hid (And.intro hAr (And.intro hSr hIr))
    have HBr := Lib.hid (Bw1.out.trans (hBr.mono Bw1.out.size))
    obtain ⟨wq, hst, hrq, hgq, hsq⟩ := run_store_row (P := Try.prog) (Rrw1.out.below hBr) 28 [.string noNode.name, .bool noNode.coll, .int .u8 noNode.access, .int .i64 noNode.max, Ar, Sr, Ir, .string noNode.parent] (sizeNode wr) rfl rfl (node_one _ _ _ _ _ _ _ _ hAr.one hSr.one hIr.one)
    have HGq := Lib.hid hgq
    have HST := Lib.hid hst
    have r0 := hrq.at 0 _ rfl
    have r1 := hrq.at 1 _ rfl
    have r2 := hrq.at 2 _ rfl
    have r3 := hrq.at 3 _ rfl
    have r4 := hrq.at 4 _ rfl
    have r5 := hrq.at 5 _ rfl
    have r6 := hrq.at 6 _ rfl
    have r7 := hrq.at 7 _ rfl
    clear hst hrq hgq hsq hAr hSr hIr hBr
    go_wp2_with (refine wpList_store_run _ rfl 28 _ _ rfl _ _ rfl rfl HST.out ?_)
    refine bodyPost_ret (by simp [results, Try.results30, go_sem, r0, r1, r2, r3, r4, r5, r6, r7]; try rfl) rfl ?_
    exact ⟨_, by rw [HC.out], by rw [HC.out]; exact ⟨Ar, Sr, Ir, rfl, HVr.out.1.empty, HVr.out.2.1.empty, HVr.out.2.2.empty⟩, below_gone HBr.out HGq.out HBr.out.size (Nat.le_succ _)⟩
  | true =>
  have HSu1 := Lib.hid (HSu.out w1 Bw1.out)
  go_wp2_with fail
  (with_reducible refine HSu1.out.mono ?_)
  rintro e w4 ⟨rfl, hw4⟩
  have Bw4 := Lib.hid (Bw1.out.trans (hw4.mono Bw1.out.size))
  have Rbw4 := Lib.hid (Rbw1.out.below hw4)
  have Rrw4 := Lib.hid (Rrw1.out.below hw4)
  obtain ⟨w5, hw5, hB5, hs5, hsz5⟩ := one w4 47 [.string s0, .bool s1, .int .i64 s2]
  have Bz := Lib.hid (Bw4.out.trans (hB5.mono Bw4.out.size))
  have Rbz := Lib.hid (Rbw4.out.below hB5)
  have Rrz := Lib.hid (Rrw4.out.below hB5)
  have HW5 := Lib.hid hw5
  clear hw5 hB5 hs5 hsz5
  have t0 := Rbz.out.at 0 _ rfl
  have t1 := Rbz.out.at 1 _ rfl
  have t2 := Rbz.out.at 2 _ rfl
  have t3 := Rbz.out.at 3 _ rfl
  have t4 := Rbz.out.at 4 _ rfl
  have t5 := Rbz.out.at 5 _ rfl
  have t6 := Rbz.out.at 6 _ rfl
  have t7 := Rbz.out.at 7 _ rfl
  go_upto_region 4 with fail
  rw [HW5.out]
  clear HW5
  cases sb with
  | false =>
    have HC : Hid (unsubscribeN pr n who = (noNode, 10)) := by show _ = _; rw [HE.out]; rfl
    clear HE
    go_wp2_with fail
    (with_reducible refine (refused_any 10 w5).mono ?_)
    rintro e wr ⟨vr, rfl, hvr, hBr⟩
    obtain ⟨Ar, Sr, Ir, rfl, hAr, hSr, hIr⟩ := hvr
    have HVr := Lib.hid (And.intro hAr (And.intro hSr hIr))
    have HBr := Lib.hid (Bz.out.trans (hBr.mono Bz.out.size))
    obtain ⟨wq, hst, hrq, hgq, hsq⟩ := run_store_row (P := Try.prog) (Rrz.out.below hBr) 28 [.string noNode.name, .bool noNode.coll, .int .u8 noNode.access, .int .i64 noNode.max, Ar, Sr, Ir, .string noNode.parent] (sizeNode wr) rfl rfl (node_one _ _ _ _ _ _ _ _ hAr.one hSr.one hIr.one)
    have HGq := Lib.hid hgq
    have HST := Lib.hid hst
    have r0 := hrq.at 0 _ rfl
    have r1 := hrq.at 1 _ rfl
    have r2 := hrq.at 2 _ rfl
    have r3 := hrq.at 3 _ rfl
    have r4 := hrq.at 4 _ rfl
    have r5 := hrq.at 5 _ rfl
    have r6 := hrq.at 6 _ rfl
    have r7 := hrq.at 7 _ rfl
    clear hst hrq hgq hsq hAr hSr hIr hBr
    go_wp2_with (refine wpList_store_run _ rfl 28 _ _ rfl _ _ rfl rfl HST.out ?_)
    refine bodyPost_ret (by simp [results, Try.results30, go_sem, r0, r1, r2, r3, r4, r5, r6, r7]; try rfl) rfl ?_
    exact ⟨_, by rw [HC.out], by rw [HC.out]; exact ⟨Ar, Sr, Ir, rfl, HVr.out.1.empty, HVr.out.2.1.empty, HVr.out.2.2.empty⟩, below_gone HBr.out HGq.out HBr.out.size (Nat.le_succ _)⟩
  | true =>
  have HC : Hid (unsubscribeN pr n who = ({ n with subs := dropL PSub.jid who n.subs }, 0)) := by show _ = _; rw [HE.out]; rfl
  clear HE
  have HB1 := Bz
  have HR1 := Rbz
  have HR21 := Rrz
  go_wp2_with fail
  (with_reducible refine (HOn.out w5 HB1.out).mono ?_)
  rintro e w2 ⟨v2, rfl, hv2, hB2⟩
  obtain ⟨A2, S2, I2, rfl, hA2, hS2, hI2⟩ := hv2
  have HB2 := Lib.hid (HB1.out.trans (hB2.mono HB1.out.size))
  have HRb := Lib.hid (HR1.out.below hB2)
  have HRr := Lib.hid (HR21.out.below hB2)
  have hA2 := hA2.mono HB1.out.size
  have hS2 := hS2.mono HB1.out.size
  have hI2 := hI2.mono HB1.out.size
  obtain ⟨qA, kA, rfl⟩ := row_slice hA2
  obtain ⟨qS, kS, rfl⟩ := row_slice hS2
  obtain ⟨qI, kI, rfl⟩ := row_slice hI2
  have nAb := hA2.ne HRb.out (by decide)
  have nSb := hS2.ne HRb.out (by decide)
  have nIb := hI2.ne HRb.out (by decide)
  have nAr := hA2.ne HRr.out (by decide)
  have nSr := hS2.ne HRr.out (by decide)
  have nIr := hI2.ne HRr.out (by decide)
  obtain ⟨w3, hst3, hr3, hg3, hs3⟩ := run_store_row (P := Try.prog) HRb.out 28 [.string n.name, .bool n.coll, .int .u8 n.access, .int .i64 n.max, .slice qA n.affs.length kA, .slice qS n.subs.length kS, .slice qI n.items.length kI, .string n.parent] (sizeNode w2) rfl rfl (node_one _ _ _ _ _ _ _ _ rfl rfl rfl)
  have hb3 : w.heap.size ≤ w2.heap.size := HB2.out.size
  have HB3 := Lib.hid (below_gone HB2.out hg3 HB2.out.size (Nat.le_refl _))
  have HA3 := Lib.hid (hA2.gone hg3 nAb)
  have HS3 := Lib.hid (hS2.gone hg3 nSb)
  have HI3 := Lib.hid (hI2.gone hg3 nIb)
  have HRr3 := Lib.hid (HRr.out.gone hg3 (by omega))
  have HRb3 := Lib.hid hr3
  have HST3 := Lib.hid hst3
  have s3 := hr3.at 3 _ rfl
  have s4 := hr3.at 4 _ rfl
  have s5 := hr3.at 5 _ rfl
  have s6 := hr3.at 6 _ rfl
  clear hst3 hr3 hg3 hs3 hA2 hS2 hI2 hB2
  have HDr := Lib.hid (dropSub_any 37 ofSub w.heap.size (.slice qS n.subs.length kS) n.subs who w3 HS3.out HB3.out.size HD.out.subs)
  have aA := HA3.out.apart HS3.out (by decide)
  have aI := HI3.out.apart HS3.out (by decide)
  go_wp2_with (refine wpList_store_run _ rfl 28 _ _ rfl _ _ rfl rfl HST3.out ?_)
  (with_reducible refine HDr.out.mono ?_)
  rintro e w8 ⟨v8, rfl, ho8, hg8⟩
  obtain ⟨q8, k8, rfl⟩ := row_slice ho8
  have HB8 := Lib.hid (below_goneR HB3.out hg8 HS3.out HB3.out.size (Nat.le_refl _))
  have HRb8 := Lib.hid (HRb3.out.goneR hg8 nSb)
  have HRr8 := Lib.hid (HRr3.out.goneR hg8 nSr)
  have HA8 := Lib.hid (HA3.out.goneR hg8 aA)
  have HI8 := Lib.hid (HI3.out.goneR hg8 aI)
  have HO8 := Lib.hid ho8
  obtain ⟨w9, st9, hr9, hg9, _⟩ := run_store_one (P := Try.prog) HRb8.out 25 5 (.slice q8 (dropL PSub.jid who n.subs).length k8) (Try.sizeOf25 _) (by simp) rfl rfl
  have HB9 := Lib.hid (below_gone HB8.out hg9 HB8.out.size (Nat.le_refl _))
  have HRr9 := Lib.hid (HRr8.out.gone hg9 (by omega))
  have m0 := hr9.at 0 _ rfl
  have m1 := hr9.at 1 _ rfl
  have m2 := hr9.at 2 _ rfl
  have m3 := hr9.at 3 _ rfl
  have m4 := hr9.at 4 _ rfl
  have m5 := hr9.at 5 _ rfl
  have m6 := hr9.at 6 _ rfl
  have m7 := hr9.at 7 _ rfl
  obtain ⟨wx, stx, hrx, hgx, _⟩ := run_store_row (P := Try.prog) HRr9.out 28 [.string n.name, .bool n.coll, .int .u8 n.access, .int .i64 n.max, .slice qA n.affs.length kA, .slice q8 (dropL PSub.jid who n.subs).length k8, .slice qI n.items.length kI, .string n.parent] (sizeNode w9) rfl rfl (node_one _ _ _ _ _ _ _ _ rfl rfl rfl)
  have HAx := Lib.hid ((HA8.out.gone hg9 (HA8.out.ne HRb8.out (by decide))).gone hgx (HA8.out.ne HRr8.out (by decide)))
  have HOx := Lib.hid ((HO8.out.gone hg9 (HO8.out.ne HRb8.out (by decide))).gone hgx (HO8.out.ne HRr8.out (by decide)))
  have HIx := Lib.hid ((HI8.out.gone hg9 (HI8.out.ne HRb8.out (by decide))).gone hgx (HI8.out.ne HRr8.out (by decide)))
  have HBx := Lib.hid (below_gone HB9.out hgx HB9.out.size (Nat.le_succ _))
  have u0 := hrx.at 0 _ rfl
  have u1 := hrx.at 1 _ rfl
  have u2 := hrx.at 2 _ rfl
  have u3 := hrx.at 3 _ rfl
  have u4 := hrx.at 4 _ rfl
  have u5 := hrx.at 5 _ rfl
  have u6 := hrx.at 6 _ rfl
  have u7 := hrx.at 7 _ rfl
  have ST9 := Lib.hid st9
  have STx := Lib.hid stx
  clear st9 stx hr9 hrx hg8 hg9 hgx ho8 aA aI
  go_wp2_with (first
    | (refine wpList_store_run _ rfl 25 _ _ rfl _ _ rfl rfl ST9.out ?_)
    | (refine wpList_store_run _ rfl 28 _ _ rfl _ _ rfl rfl STx.out ?_))
  refine bodyPost_ret (by simp [results, Try.results30, go_sem, u0, u1, u2, u3, u4, u5, u6, u7]; try rfl) rfl ?_
  exact ⟨_, by rw [HC.out], by rw [HC.out]; exact ⟨_, _, _, rfl, HAx.out.sl PAff.enc_len, HOx.out.sl PSub.enc_len, HIx.out.sl PItem.enc_len⟩, HBx.out⟩

set_option maxRecDepth 100000 in
set_option maxHeartbeats 8000000 in
theorem purge_any (v : Value) (n : PNode) (by_ : ByteArray) (w : World) (hv : NodeV w v n) (hbd : Bd n) :
    Calls Try.prog 33 #[v, .string by_] w fun e w' => ∃ v', e = .returned (.tuple #[v', .int .i64 (purgeN pr n by_).2]) ∧ NodeV w' v' (purgeN pr n by_).1 ∧ Below w.heap.size w w' := by
  have hv0 := hv
  obtain ⟨A, S, I, rfl, hA, hS, hI⟩ := hv
  obtain ⟨aA, cA, rfl⟩ := hA.form
  obtain ⟨aS, cS, rfl⟩ := hS.form
  obtain ⟨aI, cI, rfl⟩ := hI.form
  obtain ⟨W0, hW0, hB0, hr1, hr2, hs⟩ := two w 28 28 [.string n.name, .bool n.coll, .int .u8 n.access, .int .i64 n.max, .slice aA n.affs.length cA, .slice aS n.subs.length cS, .slice aI n.items.length cI, .string n.parent] [.string ⟨#[]⟩, .bool false, .int .u8 0, .int .i64 0, .slice none 0 0, .slice none 0 0, .slice none 0 0, .string ⟨#[]⟩]
  have HPu : Hid (Calls Try.prog 23 #[.agg #[.string n.name, .bool n.coll, .int .u8 n.access, .int .i64 n.max, .slice aA n.affs.length cA, .slice aS n.subs.length cS, .slice aI n.items.length cI, .string n.parent], .string by_, .int .u8 5] W0 fun e w' => e = .returned (.int .i64 (publisherN pr n by_ 5)) ∧ Below W0.heap.size W0 w') := publisher_any _ n by_ 5 W0 (hv0.below hB0) hbd
  have HOn : Hid (∀ W, Below w.heap.size w W → Calls Try.prog 21 #[.agg #[.string n.name, .bool n.coll, .int .u8 n.access, .int .i64 n.max, .slice aA n.affs.length cA, .slice aS n.subs.length cS, .slice aI n.items.length cI, .string n.parent]] W fun e w' => ∃ v', e = .returned v' ∧ NodeO w' W.heap.size v' n ∧ Below W.heap.size W w') := fun W hW => own_any _ n W (hv0.below hW) (by have := hbd.affs; omega) (by have := hbd.subs; omega) (by have := hbd.items; omega)
  have c0 := hr1.at 0 _ rfl
  have c1 := hr1.at 1 _ rfl
  have c2 := hr1.at 2 _ rfl
  have c3 := hr1.at 3 _ rfl
  have c4 := hr1.at 4 _ rfl
  have c5 := hr1.at 5 _ rfl
  have c6 := hr1.at 6 _ rfl
  have c7 := hr1.at 7 _ rfl
  have HW := Lib.hid hW0
  have HB := Lib.hid hB0
  have HR := Lib.hid hr1
  have HR2 := Lib.hid hr2
  have HD := Lib.hid hbd
  have mixed : Try.prog.follows .mixedOrders = true := by kernel_rfl
  clear hW0 hB0 hr1 hr2 hs hv0 hA hS hI hbd
  go_enter Try.func33, Try.ntmps33
  go_upto_region 1 with fail
  rw [HW.out]
  clear HW
  go_wp2_with fail
  (with_reducible refine HPu.out.mono ?_)
  rintro e w1 ⟨rfl, hw1⟩
  have Bw1 := Lib.hid (HB.out.trans (hw1.mono HB.out.size))
  have Rbw1 := Lib.hid (HR.out.below hw1)
  have Rrw1 := Lib.hid (HR2.out.below hw1)
  have p0 := Rbw1.out.at 0 _ rfl
  have p1 := Rbw1.out.at 1 _ rfl
  have p2 := Rbw1.out.at 2 _ rfl
  have p3 := Rbw1.out.at 3 _ rfl
  have p4 := Rbw1.out.at 4 _ rfl
  have p5 := Rbw1.out.at 5 _ rfl
  have p6 := Rbw1.out.at 6 _ rfl
  have p7 := Rbw1.out.at 7 _ rfl
  by_cases ho : publisherN pr n by_ 5 = 0
  · have HC : Hid (purgeN pr n by_ = ({ n with items := [] }, 0)) := by show _ = _; unfold purgeN; rw [if_neg (by rw [ho]; decide)]
    rw [ho]
    clear ho
    have HB1 := Bw1
    have HR1 := Rbw1
    have HR21 := Rrw1
    go_wp2_with fail
    (with_reducible refine (HOn.out w1 HB1.out).mono ?_)
    rintro e w2 ⟨v2, rfl, hv2, hB2⟩
    obtain ⟨A2, S2, I2, rfl, hA2, hS2, hI2⟩ := hv2
    have HB2 := Lib.hid (HB1.out.trans (hB2.mono HB1.out.size))
    have HRb := Lib.hid (HR1.out.below hB2)
    have HRr := Lib.hid (HR21.out.below hB2)
    have hA2 := hA2.mono HB1.out.size
    have hS2 := hS2.mono HB1.out.size
    have hI2 := hI2.mono HB1.out.size
    obtain ⟨qA, kA, rfl⟩ := row_slice hA2
    obtain ⟨qS, kS, rfl⟩ := row_slice hS2
    obtain ⟨qI, kI, rfl⟩ := row_slice hI2
    have nAb := hA2.ne HRb.out (by decide)
    have nSb := hS2.ne HRb.out (by decide)
    have nIb := hI2.ne HRb.out (by decide)
    have nAr := hA2.ne HRr.out (by decide)
    have nSr := hS2.ne HRr.out (by decide)
    have nIr := hI2.ne HRr.out (by decide)
    obtain ⟨w3, hst3, hr3, hg3, hs3⟩ := run_store_row (P := Try.prog) HRb.out 28 [.string n.name, .bool n.coll, .int .u8 n.access, .int .i64 n.max, .slice qA n.affs.length kA, .slice qS n.subs.length kS, .slice qI n.items.length kI, .string n.parent] (sizeNode w2) rfl rfl (node_one _ _ _ _ _ _ _ _ rfl rfl rfl)
    have hb3 : w.heap.size ≤ w2.heap.size := HB2.out.size
    have HB3 := Lib.hid (below_gone HB2.out hg3 HB2.out.size (Nat.le_refl _))
    have HA3 := Lib.hid (hA2.gone hg3 nAb)
    have HS3 := Lib.hid (hS2.gone hg3 nSb)
    have HI3 := Lib.hid (hI2.gone hg3 nIb)
    have HRr3 := Lib.hid (HRr.out.gone hg3 (by omega))
    have HRb3 := Lib.hid hr3
    have HST3 := Lib.hid hst3
    have s3 := hr3.at 3 _ rfl
    have s4 := hr3.at 4 _ rfl
    have s5 := hr3.at 5 _ rfl
    have s6 := hr3.at 6 _ rfl
    clear hst3 hr3 hg3 hs3 hA2 hS2 hI2 hB2
    obtain ⟨w9, st9, hr9, hg9, _⟩ := run_store_one (P := Try.prog) HRb3.out 26 6 (.slice none 0 0) (Try.sizeOf26 _) (by simp) rfl rfl
    have HB9 := Lib.hid (below_gone HB3.out hg9 HB3.out.size (Nat.le_refl _))
    have HRr9 := Lib.hid (HRr3.out.gone hg9 (by omega))
    have m0 := hr9.at 0 _ rfl
    have m1 := hr9.at 1 _ rfl
    have m2 := hr9.at 2 _ rfl
    have m3 := hr9.at 3 _ rfl
    have m4 := hr9.at 4 _ rfl
    have m5 := hr9.at 5 _ rfl
    have m6 := hr9.at 6 _ rfl
    have m7 := hr9.at 7 _ rfl
    obtain ⟨wx, stx, hrx, hgx, _⟩ := run_store_row (P := Try.prog) HRr9.out 28 [.string n.name, .bool n.coll, .int .u8 n.access, .int .i64 n.max, .slice qA n.affs.length kA, .slice qS n.subs.length kS, .slice none 0 0, .string n.parent] (sizeNode w9) rfl rfl (node_one _ _ _ _ _ _ _ _ rfl rfl rfl)
    have HAx := Lib.hid ((HA3.out.gone hg9 nAb).gone hgx nAr)
    have HSx := Lib.hid ((HS3.out.gone hg9 nSb).gone hgx nSr)
    have HBx := Lib.hid (below_gone HB9.out hgx HB9.out.size (Nat.le_succ _))
    have u0 := hrx.at 0 _ rfl
    have u1 := hrx.at 1 _ rfl
    have u2 := hrx.at 2 _ rfl
    have u3 := hrx.at 3 _ rfl
    have u4 := hrx.at 4 _ rfl
    have u5 := hrx.at 5 _ rfl
    have u6 := hrx.at 6 _ rfl
    have u7 := hrx.at 7 _ rfl
    have ST9 := Lib.hid st9
    have STx := Lib.hid stx
    clear st9 stx hr9 hrx hg9 hgx
    go_wp2_with (first
      | (refine wpList_store_run _ rfl 28 _ _ rfl _ _ rfl rfl HST3.out ?_)
      | (refine wpList_store_run _ rfl 26 _ _ rfl _ _ rfl rfl ST9.out ?_)
      | (refine wpList_store_run _ rfl 28 _ _ rfl _ _ rfl rfl STx.out ?_))
    refine bodyPost_ret (by simp [results, Try.results33, go_sem, u0, u1, u2, u3, u4, u5, u6, u7]; try rfl) rfl ?_
    exact ⟨_, by rw [HC.out], by rw [HC.out]; exact ⟨_, _, _, rfl, HAx.out.sl PAff.enc_len, HSx.out.sl PSub.enc_len, SlE.nil _⟩, HBx.out⟩
  · have hne : (publisherN pr n by_ 5 != 0) = true := by rw [bne_iff_ne]; exact ho
    have HC : Hid (purgeN pr n by_ = (noNode, publisherN pr n by_ 5)) := by show _ = _; unfold purgeN; rw [if_pos hne]
    generalize publisherN pr n by_ 5 = c at *
    clear ho
    go_wp2_with fail
    (with_reducible refine (refused_any c w1).mono ?_)
    rintro e wr ⟨vr, rfl, hvr, hBr⟩
    obtain ⟨Ar, Sr, Ir, rfl, hAr, hSr, hIr⟩ := hvr
    have HVr := Lib.hid (And.intro hAr (And.intro hSr hIr))
    have HBr := Lib.hid (Bw1.out.trans (hBr.mono Bw1.out.size))
    obtain ⟨wq, hst, hrq, hgq, hsq⟩ := run_store_row (P := Try.prog) (Rrw1.out.below hBr) 28 [.string noNode.name, .bool noNode.coll, .int .u8 noNode.access, .int .i64 noNode.max, Ar, Sr, Ir, .string noNode.parent] (sizeNode wr) rfl rfl (node_one _ _ _ _ _ _ _ _ hAr.one hSr.one hIr.one)
    have HGq := Lib.hid hgq
    have HST := Lib.hid hst
    have r0 := hrq.at 0 _ rfl
    have r1 := hrq.at 1 _ rfl
    have r2 := hrq.at 2 _ rfl
    have r3 := hrq.at 3 _ rfl
    have r4 := hrq.at 4 _ rfl
    have r5 := hrq.at 5 _ rfl
    have r6 := hrq.at 6 _ rfl
    have r7 := hrq.at 7 _ rfl
    clear hst hrq hgq hsq hAr hSr hIr hBr
    go_wp2_with (refine wpList_store_run _ rfl 28 _ _ rfl _ _ rfl rfl HST.out ?_)
    refine bodyPost_ret (by simp [results, Try.results33, go_sem, r0, r1, r2, r3, r4, r5, r6, r7]; try rfl) rfl ?_
    exact ⟨_, by rw [HC.out], by rw [HC.out]; exact ⟨Ar, Sr, Ir, rfl, HVr.out.1.empty, HVr.out.2.1.empty, HVr.out.2.2.empty⟩, below_gone HBr.out HGq.out HBr.out.size (Nat.le_succ _)⟩
end Go.Proofs.Ytpjaopcgoaannaa
