/- node.Affiliate: a role taken away. Written by gen_n30.py. -/
import Derived.Test.YtpjaopcgoaannaaN30a
namespace Go.Proofs.Ytpjaopcgoaannaa
open Go.RowKit Go.Lib
open Hb

set_option maxRecDepth 100000 in
set_option maxHeartbeats 8000000 in
theorem affiliate_two (v : Value) (n : PNode) (by_ who : ByteArray) (w : World) (hv : NodeV w v n) (hbd : Bd n) (hsw : Sm who) (ho : ownerN pr n by_ = 0) (had : addrB who = true) :
    Calls Try.prog 31 #[v, .string by_, .string who, .int .u8 2] w fun e w' => ∃ v', e = .returned (.tuple #[v', .int .i64 (affiliateN pr n by_ who 2).2]) ∧ NodeV w' v' (affiliateN pr n by_ who 2).1 ∧ Below w.heap.size w w' := by
  have hv0 := hv
  obtain ⟨A, S, I, rfl, hA, hS, hI⟩ := hv
  obtain ⟨aA, cA, rfl⟩ := hA.form
  obtain ⟨aS, cS, rfl⟩ := hS.form
  obtain ⟨aI, cI, rfl⟩ := hI.form
  obtain ⟨W0, hW0, hB0, hr1, hr2, hs⟩ := two w 28 28 [.string n.name, .bool n.coll, .int .u8 n.access, .int .i64 n.max, .slice aA n.affs.length cA, .slice aS n.subs.length cS, .slice aI n.items.length cI, .string n.parent] [.string ⟨#[]⟩, .bool false, .int .u8 0, .int .i64 0, .slice none 0 0, .slice none 0 0, .slice none 0 0, .string ⟨#[]⟩]
  have HOw : Hid (Calls Try.prog 19 #[.agg #[.string n.name, .bool n.coll, .int .u8 n.access, .int .i64 n.max, .slice aA n.affs.length cA, .slice aS n.subs.length cS, .slice aI n.items.length cI, .string n.parent], .string by_] W0 fun e w' => e = .returned (.int .i64 (ownerN pr n by_)) ∧ Below W0.heap.size W0 w') := owner_any _ n by_ W0 (hv0.below hB0) hbd
  have HAd : Hid (∀ W, Calls Try.prog 38 #[.string who] W fun e w' => e = .returned (.bool (addrB who)) ∧ Below W.heap.size W w') := fun W => addr_any _ W hsw
  have HOn : Hid (∀ W, Below w.heap.size w W → Calls Try.prog 21 #[.agg #[.string n.name, .bool n.coll, .int .u8 n.access, .int .i64 n.max, .slice aA n.affs.length cA, .slice aS n.subs.length cS, .slice aI n.items.length cI, .string n.parent]] W fun e w' => ∃ v', e = .returned v' ∧ NodeO w' W.heap.size v' n ∧ Below W.heap.size W w') := fun W hW => own_any _ n W (hv0.below hW) (by have := hbd.affs; omega) (by have := hbd.subs; omega) (by have := hbd.items; omega)
  have c0 := hr1.at 0 _ rfl
  have c1 := hr1.at 1 _ rfl
  have c2 := hr1.at 2 _ rfl
  have c3 := hr1.at 3 _ rfl
  have c4 := hr1.at 4 _ rfl
  have c5 := hr1.at 5 _ rfl
  have c6 := hr1.at 6 _ rfl
  have c7 := hr1.at 7 _ rfl
  have HW := Lib.hid hW0
  have HB := Lib.hid hB0
  have HR := Lib.hid hr1
  have HR2 := Lib.hid hr2
  have HD := Lib.hid hbd
  have mixed : Try.prog.follows .mixedOrders = true := by kernel_rfl
  clear hW0 hB0 hr1 hr2 hs hv0 hA hS hI hbd
  have HF9 : Hid (Ris PAff.jid n.affs) := ((right_iff pr n).1 (by cases hr : rightN pr n with | true => rfl | false => exfalso; unfold ownerN at ho; rw [hr] at ho; exact absurd (show (1 : Int) = 0 from ho) (by decide))).affRis
  have HE : Hid (affiliateN pr n by_ who 2 = if !(newAffs n who 2).any (fun a => a.role == 5) then (noNode, 2) else if decide (16 < (newAffs n who 2).length) then (noNode, 8) else ({ n with affs := newAffs n who 2, subs := if (2 : Int) == 1 then dropL PSub.jid who n.subs else n.subs }, 0)) := by
    show _ = _
    unfold affiliateN
    rw [if_neg (by rw [ho]; decide), if_neg]
    show ¬ ((!addrB who || decide (2 < 1) || decide (5 < 2)) = true)
    rw [had]
    decide
  rw [had] at HAd
  rw [ho] at HOw
  clear ho had
  go_enter Try.func31, Try.ntmps31
  go_upto_region 1 with fail
  rw [HW.out]
  clear HW
  go_wp2_with fail
  (with_reducible refine HOw.out.mono ?_)
  rintro e w1 ⟨rfl, hw1⟩
  have Bw1 := Lib.hid (HB.out.trans (hw1.mono HB.out.size))
  have Rbw1 := Lib.hid (HR.out.below hw1)
  have Rrw1 := Lib.hid (HR2.out.below hw1)
  have p0 := Rbw1.out.at 0 _ rfl
  have p1 := Rbw1.out.at 1 _ rfl
  have p2 := Rbw1.out.at 2 _ rfl
  have p3 := Rbw1.out.at 3 _ rfl
  have p4 := Rbw1.out.at 4 _ rfl
  have p5 := Rbw1.out.at 5 _ rfl
  have p6 := Rbw1.out.at 6 _ rfl
  have p7 := Rbw1.out.at 7 _ rfl
  go_wp2_with fail
  (with_reducible refine (HAd.out w1).mono ?_)
  rintro e w2 ⟨rfl, hw2⟩
  have Bw2 := Lib.hid (Bw1.out.trans (hw2.mono Bw1.out.size))
  have Rbw2 := Lib.hid (Rbw1.out.below hw2)
  have Rrw2 := Lib.hid (Rrw1.out.below hw2)
  have q0 := Rbw2.out.at 0 _ rfl
  have q1 := Rbw2.out.at 1 _ rfl
  have q2 := Rbw2.out.at 2 _ rfl
  have q3 := Rbw2.out.at 3 _ rfl
  have q4 := Rbw2.out.at 4 _ rfl
  have q5 := Rbw2.out.at 5 _ rfl
  have q6 := Rbw2.out.at 6 _ rfl
  have q7 := Rbw2.out.at 7 _ rfl
  have HB1 := Bw2
  have HR1 := Rbw2
  have HR21 := Rrw2
  go_wp2_with fail
  (with_reducible refine (HOn.out w2 HB1.out).mono ?_)
  rintro e w2 ⟨v2, rfl, hv2, hB2⟩
  obtain ⟨A2, S2, I2, rfl, hA2, hS2, hI2⟩ := hv2
  have HB2 := Lib.hid (HB1.out.trans (hB2.mono HB1.out.size))
  have HRb := Lib.hid (HR1.out.below hB2)
  have HRr := Lib.hid (HR21.out.below hB2)
  have hA2 := hA2.mono HB1.out.size
  have hS2 := hS2.mono HB1.out.size
  have hI2 := hI2.mono HB1.out.size
  obtain ⟨qA, kA, rfl⟩ := row_slice hA2
  obtain ⟨qS, kS, rfl⟩ := row_slice hS2
  obtain ⟨qI, kI, rfl⟩ := row_slice hI2
  have nAb := hA2.ne HRb.out (by decide)
  have nSb := hS2.ne HRb.out (by decide)
  have nIb := hI2.ne HRb.out (by decide)
  have nAr := hA2.ne HRr.out (by decide)
  have nSr := hS2.ne HRr.out (by decide)
  have nIr := hI2.ne HRr.out (by decide)
  obtain ⟨w3, hst3, hr3, hg3, hs3⟩ := run_store_row (P := Try.prog) HRb.out 28 [.string n.name, .bool n.coll, .int .u8 n.access, .int .i64 n.max, .slice qA n.affs.length kA, .slice qS n.subs.length kS, .slice qI n.items.length kI, .string n.parent] (sizeNode w2) rfl rfl (node_one _ _ _ _ _ _ _ _ rfl rfl rfl)
  have hb3 : w.heap.size ≤ w2.heap.size := HB2.out.size
  have HB3 := Lib.hid (below_gone HB2.out hg3 HB2.out.size (Nat.le_refl _))
  have HA3 := Lib.hid (hA2.gone hg3 nAb)
  have HS3 := Lib.hid (hS2.gone hg3 nSb)
  have HI3 := Lib.hid (hI2.gone hg3 nIb)
  have HRr3 := Lib.hid (HRr.out.gone hg3 (by omega))
  have HRb3 := Lib.hid hr3
  have HST3 := Lib.hid hst3
  have s3 := hr3.at 3 _ rfl
  have s4 := hr3.at 4 _ rfl
  have s5 := hr3.at 5 _ rfl
  have s6 := hr3.at 6 _ rfl
  clear hst3 hr3 hg3 hs3 hA2 hS2 hI2 hB2
  have HLn : Hid ((dropL PAff.jid who n.affs).length ≤ 100000000) := by have := dropL_length (of := PAff.jid) who n.affs; have := HD.out.affs; show _ ≤ _; omega
  rw [show newAffs n who 2 = dropL PAff.jid who n.affs from rfl] at HE
  have HEd := Lib.hid (dropAff_any 35 ofAff w.heap.size (.slice qA n.affs.length kA) n.affs who w3 HA3.out HB3.out.size HD.out.affs)
  have aS := HS3.out.apart HA3.out (by decide)
  have aI := HI3.out.apart HA3.out (by decide)
  go_wp2_with (refine wpList_store_run _ rfl 28 _ _ rfl _ _ rfl rfl HST3.out ?_)
  (with_reducible refine HEd.out.mono ?_)
  rintro e w8 ⟨v8, rfl, ho8, hg8⟩
  obtain ⟨q8, k8, rfl⟩ := row_slice ho8
  have HB8 := Lib.hid (below_goneR HB3.out hg8 HA3.out HB3.out.size (Nat.le_refl _))
  have HRb8 := Lib.hid (HRb3.out.goneR hg8 nAb)
  have HRr8 := Lib.hid (HRr3.out.goneR hg8 nAr)
  have HS8 := Lib.hid (HS3.out.goneR hg8 aS)
  have HI8 := Lib.hid (HI3.out.goneR hg8 aI)
  have HO8 := Lib.hid ho8
  obtain ⟨w9, st9, hr9, hg9, _⟩ := run_store_one (P := Try.prog) HRb8.out 24 4 (.slice q8 (dropL PAff.jid who n.affs).length k8) (Try.sizeOf24 _) (by simp) rfl rfl
  have HB9 := Lib.hid (below_gone HB8.out hg9 HB8.out.size (Nat.le_refl _))
  have HRr9 := Lib.hid (HRr8.out.gone hg9 (by omega))
  have HRb9 := Lib.hid hr9
  have m0 := hr9.at 0 _ rfl
  have m1 := hr9.at 1 _ rfl
  have m2 := hr9.at 2 _ rfl
  have m3 := hr9.at 3 _ rfl
  have m4 := hr9.at 4 _ rfl
  have m5 := hr9.at 5 _ rfl
  have m6 := hr9.at 6 _ rfl
  have m7 := hr9.at 7 _ rfl
  have HA9 := Lib.hid (HO8.out.gone hg9 (HO8.out.ne HRb8.out (by decide)))
  have HS9 := Lib.hid (HS8.out.gone hg9 (HS8.out.ne HRb8.out (by decide)))
  have HI9 := Lib.hid (HI8.out.gone hg9 (HI8.out.ne HRb8.out (by decide)))
  have ST9 := Lib.hid st9
  clear st9 hr9 hg9 hg8 ho8 aS aI
  have HCo := Lib.hid (conAff_any 61 #[] (enters_of Try.func61 (by kernel_rfl) rfl) (fun a => a.role == 5) _ (dropL PAff.jid who n.affs) w9 (HA9.out.sl PAff.enc_len) (fun x W' _ => affOwn_any x W') HLn.out)
  generalize (dropL PAff.jid who n.affs).any (fun a => a.role == 5) = an at *
  go_wp2_with (refine wpList_store_run _ rfl 24 _ _ rfl _ _ rfl rfl ST9.out ?_)
  (with_reducible refine HCo.out.mono ?_)
  rintro e w10 ⟨rfl, hw10⟩
  have HBa := Lib.hid (HB9.out.trans (hw10.mono HB9.out.size))
  have HRba := Lib.hid (HRb9.out.below hw10)
  have HRra := Lib.hid (HRr9.out.below hw10)
  have HAa := Lib.hid (HA9.out.below hw10)
  have HSa := Lib.hid (HS9.out.below hw10)
  have HIa := Lib.hid (HI9.out.below hw10)
  have nSc := HSa.out.ne HRba.out (by decide)
  have nSd := HSa.out.ne HRra.out (by decide)
  have o0 := HRba.out.at 0 _ rfl
  have o1 := HRba.out.at 1 _ rfl
  have o2 := HRba.out.at 2 _ rfl
  have o3 := HRba.out.at 3 _ rfl
  have o4 := HRba.out.at 4 _ rfl
  have o5 := HRba.out.at 5 _ rfl
  have o6 := HRba.out.at 6 _ rfl
  have o7 := HRba.out.at 7 _ rfl
  cases an with
  | false =>
    have HC : Hid (affiliateN pr n by_ who 2 = (noNode, 2)) := by show _ = _; rw [HE.out]; rfl
    clear HE
    go_wp2_with fail
    (with_reducible refine (refused_any 2 w10).mono ?_)
    rintro e wr ⟨vr, rfl, hvr, hBr⟩
    obtain ⟨Ar, Sr, Ir, rfl, hAr, hSr, hIr⟩ := hvr
    have HVr := Lib.hid (And.intro hAr (And.intro hSr hIr))
    have HBr := Lib.hid (HBa.out.trans (hBr.mono HBa.out.size))
    obtain ⟨wq, hst, hrq, hgq, hsq⟩ := run_store_row (P := Try.prog) (HRra.out.below hBr) 28 [.string noNode.name, .bool noNode.coll, .int .u8 noNode.access, .int .i64 noNode.max, Ar, Sr, Ir, .string noNode.parent] (sizeNode wr) rfl rfl (node_one _ _ _ _ _ _ _ _ hAr.one hSr.one hIr.one)
    have HGq := Lib.hid hgq
    have HST := Lib.hid hst
    have r0 := hrq.at 0 _ rfl
    have r1 := hrq.at 1 _ rfl
    have r2 := hrq.at 2 _ rfl
    have r3 := hrq.at 3 _ rfl
    have r4 := hrq.at 4 _ rfl
    have r5 := hrq.at 5 _ rfl
    have r6 := hrq.at 6 _ rfl
    have r7 := hrq.at 7 _ rfl
    clear hst hrq hgq hsq hAr hSr hIr hBr
    go_wp2_with (refine wpList_store_run _ rfl 28 _ _ rfl _ _ rfl rfl HST.out ?_)
    refine bodyPost_ret (by simp [results, Try.results31, go_sem, r0, r1, r2, r3, r4, r5, r6, r7]; try rfl) rfl ?_
    exact ⟨_, by rw [HC.out], by rw [HC.out]; exact ⟨Ar, Sr, Ir, rfl, HVr.out.1.empty, HVr.out.2.1.empty, HVr.out.2.2.empty⟩, below_gone HBr.out HGq.out HBr.out.size (Nat.le_succ _)⟩
  | true =>
  by_cases hl : 16 < (dropL PAff.jid who n.affs).length
  · have e4 : decide (16 < (dropL PAff.jid who n.affs).length) = true := decide_eq_true hl
    have hl2 : (16 : Int) < ((dropL PAff.jid who n.affs).length : Int) := by omega
    rw [e4] at HE
    have HC : Hid (affiliateN pr n by_ who 2 = (noNode, 8)) := by show _ = _; rw [HE.out]; rfl
    clear HE
    go_wp2_with fail
    (with_reducible refine (refused_any 8 w10).mono ?_)
    rintro e wr ⟨vr, rfl, hvr, hBr⟩
    obtain ⟨Ar, Sr, Ir, rfl, hAr, hSr, hIr⟩ := hvr
    have HVr := Lib.hid (And.intro hAr (And.intro hSr hIr))
    have HBr := Lib.hid (HBa.out.trans (hBr.mono HBa.out.size))
    obtain ⟨wq, hst, hrq, hgq, hsq⟩ := run_store_row (P := Try.prog) (HRra.out.below hBr) 28 [.string noNode.name, .bool noNode.coll, .int .u8 noNode.access, .int .i64 noNode.max, Ar, Sr, Ir, .string noNode.parent] (sizeNode wr) rfl rfl (node_one _ _ _ _ _ _ _ _ hAr.one hSr.one hIr.one)
    have HGq := Lib.hid hgq
    have HST := Lib.hid hst
    have r0 := hrq.at 0 _ rfl
    have r1 := hrq.at 1 _ rfl
    have r2 := hrq.at 2 _ rfl
    have r3 := hrq.at 3 _ rfl
    have r4 := hrq.at 4 _ rfl
    have r5 := hrq.at 5 _ rfl
    have r6 := hrq.at 6 _ rfl
    have r7 := hrq.at 7 _ rfl
    clear hst hrq hgq hsq hAr hSr hIr hBr
    go_wp2_with (refine wpList_store_run _ rfl 28 _ _ rfl _ _ rfl rfl HST.out ?_)
    refine bodyPost_ret (by simp [results, Try.results31, go_sem, r0, r1, r2, r3, r4, r5, r6, r7]; try rfl) rfl ?_
    exact ⟨_, by rw [HC.out], by rw [HC.out]; exact ⟨Ar, Sr, Ir, rfl, HVr.out.1.empty, HVr.out.2.1.empty, HVr.out.2.2.empty⟩, below_gone HBr.out HGq.out HBr.out.size (Nat.le_succ _)⟩
  have e4 : decide (16 < (dropL PAff.jid who n.affs).length) = false := decide_eq_false hl
  have hl2 : ¬ (16 : Int) < ((dropL PAff.jid who n.affs).length : Int) := by omega
  rw [e4] at HE
  have HC : Hid (affiliateN pr n by_ who 2 = ({ n with affs := dropL PAff.jid who n.affs }, 0)) := by show _ = _; rw [HE.out]; first | rfl | simp [h5]
  clear HE
  obtain ⟨wf, hwf⟩ : ∃ wf, wf = w10 := ⟨_, rfl⟩
  subst hwf
  have HBf := HBa
  have HRrf := HRra
  have HAf := HAa
  have HSf := HSa
  have HIf := HIa
  obtain ⟨wx, stx, hrx, hgx, _⟩ := run_store_row (P := Try.prog) HRrf.out 28 [.string n.name, .bool n.coll, .int .u8 n.access, .int .i64 n.max, .slice q8 (dropL PAff.jid who n.affs).length k8, .slice qS n.subs.length kS, .slice qI n.items.length kI, .string n.parent] (sizeNode wf) rfl rfl (node_one _ _ _ _ _ _ _ _ rfl rfl rfl)
  have HAx := Lib.hid (HAf.out.gone hgx (HAf.out.ne HRrf.out (by decide)))
  have HSx := Lib.hid (HSf.out.gone hgx (HSf.out.ne HRrf.out (by decide)))
  have HIx := Lib.hid (HIf.out.gone hgx (HIf.out.ne HRrf.out (by decide)))
  have HBx := Lib.hid (below_gone HBf.out hgx HBf.out.size (Nat.le_succ _))
  have u0 := hrx.at 0 _ rfl
  have u1 := hrx.at 1 _ rfl
  have u2 := hrx.at 2 _ rfl
  have u3 := hrx.at 3 _ rfl
  have u4 := hrx.at 4 _ rfl
  have u5 := hrx.at 5 _ rfl
  have u6 := hrx.at 6 _ rfl
  have u7 := hrx.at 7 _ rfl
  have STx := Lib.hid stx
  clear stx hrx hgx
  go_wp2_with (first
    | (refine wpList_store_run _ rfl 28 _ _ rfl _ _ rfl rfl STx.out ?_))
  refine bodyPost_ret (by simp [results, Try.results31, go_sem, u0, u1, u2, u3, u4, u5, u6, u7]; try rfl) rfl ?_
  exact ⟨_, by rw [HC.out], by rw [HC.out]; exact ⟨_, _, _, rfl, HAx.out.sl PAff.enc_len, HSx.out.sl PSub.enc_len, HIx.out.sl PItem.enc_len⟩, HBx.out⟩
end Go.Proofs.Ytpjaopcgoaannaa
