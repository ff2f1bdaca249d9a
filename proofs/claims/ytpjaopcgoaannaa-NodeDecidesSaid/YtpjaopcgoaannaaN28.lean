/- node.Retract. Written by gen_n28.py. -/
import Derived.Test.YtpjaopcgoaannaaN21
namespace Go.Proofs.Ytpjaopcgoaannaa
open Go.RowKit Go.Lib
open Hb

set_option maxRecDepth 100000 in
set_option maxHeartbeats 8000000 in
theorem retract_any (v : Value) (n : PNode) (by_ item : ByteArray) (w : World) (hv : NodeV w v n) (hbd : Bd n) :
    Calls Try.prog 32 #[v, .string by_, .string item] w fun e w' => ∃ v', e = .returned (.tuple #[v', .int .i64 (retractN pr n by_ item).2]) ∧ NodeV w' v' (retractN pr n by_ item).1 ∧ Below w.heap.size w w' := by
  have hv0 := hv
  obtain ⟨A, S, I, rfl, hA, hS, hI⟩ := hv
  obtain ⟨aA, cA, rfl⟩ := hA.form
  obtain ⟨aS, cS, rfl⟩ := hS.form
  obtain ⟨aI, cI, rfl⟩ := hI.form
  obtain ⟨W0, hW0, hB0, hr1, hr2, hs⟩ := two w 28 28 [.string n.name, .bool n.coll, .int .u8 n.access, .int .i64 n.max, .slice aA n.affs.length cA, .slice aS n.subs.length cS, .slice aI n.items.length cI, .string n.parent] [.string ⟨#[]⟩, .bool false, .int .u8 0, .int .i64 0, .slice none 0 0, .slice none 0 0, .slice none 0 0, .string ⟨#[]⟩]
  have HPu : Hid (Calls Try.prog 23 #[.agg #[.string n.name, .bool n.coll, .int .u8 n.access, .int .i64 n.max, .slice aA n.affs.length cA, .slice aS n.subs.length cS, .slice aI n.items.length cI, .string n.parent], .string by_, .int .u8 4] W0 fun e w' => e = .returned (.int .i64 (publisherN pr n by_ 4)) ∧ Below W0.heap.size W0 w') := publisher_any _ n by_ 4 W0 (hv0.below hB0) hbd
  have HOn : Hid (∀ W, Below w.heap.size w W → Calls Try.prog 21 #[.agg #[.string n.name, .bool n.coll, .int .u8 n.access, .int .i64 n.max, .slice aA n.affs.length cA, .slice aS n.subs.length cS, .slice aI n.items.length cI, .string n.parent]] W fun e w' => ∃ v', e = .returned v' ∧ NodeO w' W.heap.size v' n ∧ Below W.heap.size W w') := fun W hW => own_any _ n W (hv0.below hW) (by have := hbd.affs; omega) (by have := hbd.subs; omega) (by have := hbd.items; omega)
  have c0 := hr1.at 0 _ rfl
  have c1 := hr1.at 1 _ rfl
  have c2 := hr1.at 2 _ rfl
  have c3 := hr1.at 3 _ rfl
  have c4 := hr1.at 4 _ rfl
  have c5 := hr1.at 5 _ rfl
  have c6 := hr1.at 6 _ rfl
  have c7 := hr1.at 7 _ rfl
  have HW := Lib.hid hW0
  have HB := Lib.hid hB0
  have HR := Lib.hid hr1
  have HR2 := Lib.hid hr2
  have HD := Lib.hid hbd
  have mixed : Try.prog.follows .mixedOrders = true := by kernel_rfl
  clear hW0 hB0 hr1 hr2 hs hv0 hA hS hI hbd
  go_enter Try.func32, Try.ntmps32
  go_upto_region 1 with fail
  rw [HW.out]
  clear HW
  go_wp2_with fail
  (with_reducible refine HPu.out.mono ?_)
  rintro e w1 ⟨rfl, hw1⟩
  have Bw1 := Lib.hid (HB.out.trans (hw1.mono HB.out.size))
  have Rbw1 := Lib.hid (HR.out.below hw1)
  have Rrw1 := Lib.hid (HR2.out.below hw1)
  have p0 := Rbw1.out.at 0 _ rfl
  have p1 := Rbw1.out.at 1 _ rfl
  have p2 := Rbw1.out.at 2 _ rfl
  have p3 := Rbw1.out.at 3 _ rfl
  have p4 := Rbw1.out.at 4 _ rfl
  have p5 := Rbw1.out.at 5 _ rfl
  have p6 := Rbw1.out.at 6 _ rfl
  have p7 := Rbw1.out.at 7 _ rfl
  by_cases ho : publisherN pr n by_ 4 = 0
  · have HC0 : Hid (retractN pr n by_ item = if (dropL PItem.id item n.items).length == n.items.length then (noNode, 4) else ({ n with items := dropL PItem.id item n.items }, 0)) := by show _ = _; unfold retractN; rw [if_neg (by rw [ho]; decide)]
    rw [ho]
    clear ho
    go_wp2_with fail
    (with_reducible refine (HOn.out w1 Bw1.out).mono ?_)
    rintro e w2 ⟨v2, rfl, hv2, hB2⟩
    obtain ⟨A2, S2, I2, rfl, hA2, hS2, hI2⟩ := hv2
    have HB2 := Lib.hid (Bw1.out.trans (hB2.mono Bw1.out.size))
    have hA2 := hA2.mono Bw1.out.size
    have hS2 := hS2.mono Bw1.out.size
    have hI2 := hI2.mono Bw1.out.size
    obtain ⟨qA, kA, rfl⟩ := row_slice hA2
    obtain ⟨qS, kS, rfl⟩ := row_slice hS2
    obtain ⟨qI, kI, rfl⟩ := row_slice hI2
    obtain ⟨W3, hW3, hB3, hr3, _⟩ := one w2 28 [.string n.name, .bool n.coll, .int .u8 n.access, .int .i64 n.max, .slice qA n.affs.length kA, .slice qS n.subs.length kS, .slice qI n.items.length kI, .string n.parent]
    have hlb : w.heap.size + 1 < w2.heap.size := Nat.lt_of_lt_of_le Rrw1.out.lt hB2.size
    have HB3 := Lib.hid (HB2.out.trans (hB3.mono HB2.out.size))
    have HRb3 := Lib.hid ((Rbw1.out.below hB2).below hB3)
    have HRr3 := Lib.hid ((Rrw1.out.below hB2).below hB3)
    have HA3 := Lib.hid (hA2.below hB3)
    have HS3 := Lib.hid (hS2.below hB3)
    have HI3 := Lib.hid (hI2.below hB3)
    have HM3 := Lib.hid hr3
    have nAm := HA3.out.ne hr3 (by decide)
    have nSm := HS3.out.ne hr3 (by decide)
    have nIm := HI3.out.ne hr3 (by decide)
    have nIb := HI3.out.ne HRb3.out (by decide)
    have nIr := HI3.out.ne HRr3.out (by decide)
    have nAr := HA3.out.ne HRr3.out (by decide)
    have nSr := HS3.out.ne HRr3.out (by decide)
    have s6 := hr3.at 6 _ rfl
    have HW3 := Lib.hid hW3
    have aA := HA3.out.apart HI3.out (by decide)
    have aS := HS3.out.apart HI3.out (by decide)
    clear hW3 hB3 hr3 hA2 hS2 hI2 hB2
    have HDr := Lib.hid (dropItem_any 62 ofRet w.heap.size (.slice qI n.items.length kI) n.items item W3 HI3.out HB3.out.size HD.out.items)
    go_upto_region 5 with fail
    rw [HW3.out]
    clear HW3
    go_wp2_with fail
    (with_reducible refine HDr.out.mono ?_)
    rintro e w8 ⟨v8, rfl, ho8, hg8⟩
    obtain ⟨q8, k8, rfl⟩ := row_slice ho8
    have HB8 := Lib.hid (below_goneR HB3.out hg8 HI3.out HB3.out.size (Nat.le_refl _))
    have HRb8 := Lib.hid (HRb3.out.goneR hg8 nIb)
    have HRr8 := Lib.hid (HRr3.out.goneR hg8 nIr)
    have HM8 := Lib.hid (HM3.out.goneR hg8 nIm)
    have HA8 := Lib.hid (HA3.out.goneR hg8 aA)
    have HS8 := Lib.hid (HS3.out.goneR hg8 aS)
    have nOm := ho8.ne HM8.out (by decide)
    have nOr := ho8.ne HRr8.out (by decide)
    obtain ⟨w9, st9, hr9, hg9, _⟩ := run_store_one (P := Try.prog) HM8.out 26 6 (.slice q8 (dropL PItem.id item n.items).length k8) (Try.sizeOf26 _) (by simp) rfl rfl
    have HB9 := Lib.hid (below_gone HB8.out hg9 HB8.out.size (by omega))
    have HRr9 := Lib.hid (HRr8.out.gone hg9 (by omega))
    have HRb9 := Lib.hid (HRb8.out.gone hg9 (by omega))
    have x6 := HRb9.out.at 6 _ rfl
    have m0 := hr9.at 0 _ rfl
    have m1 := hr9.at 1 _ rfl
    have m2 := hr9.at 2 _ rfl
    have m3 := hr9.at 3 _ rfl
    have m4 := hr9.at 4 _ rfl
    have m5 := hr9.at 5 _ rfl
    have m6 := hr9.at 6 _ rfl
    have m7 := hr9.at 7 _ rfl
    have HA9 := Lib.hid (HA8.out.gone hg9 nAm)
    have HS9 := Lib.hid (HS8.out.gone hg9 nSm)
    have HO9 := Lib.hid (ho8.gone hg9 nOm)
    have ST9 := Lib.hid st9
    clear st9 hr9 hg9 hg8 ho8 aA aS
    cases hl : ((dropL PItem.id item n.items).length == n.items.length) with
    | true =>
      have hl2 : (((dropL PItem.id item n.items).length : Int) == (n.items.length : Int)) = true := by rw [beq_iff_eq] at *; omega
      have HC : Hid (retractN pr n by_ item = (noNode, 4)) := by show _ = _; rw [HC0.out, hl]; rfl
      clear hl HC0
      go_wp2_with (refine wpList_store_run _ rfl 26 _ _ rfl _ _ rfl rfl ST9.out ?_)
      (with_reducible refine (refused_any 4 w9).mono ?_)
      rintro e wr ⟨vr, rfl, hvr, hBr⟩
      obtain ⟨Ar, Sr, Ir, rfl, hAr, hSr, hIr⟩ := hvr
      have HVr := Lib.hid (And.intro hAr (And.intro hSr hIr))
      have HBr := Lib.hid (HB9.out.trans (hBr.mono HB9.out.size))
      obtain ⟨wq, hst, hrq, hgq, hsq⟩ := run_store_row (P := Try.prog) (HRr9.out.below hBr) 28 [.string noNode.name, .bool noNode.coll, .int .u8 noNode.access, .int .i64 noNode.max, Ar, Sr, Ir, .string noNode.parent] (sizeNode wr) rfl rfl (node_one _ _ _ _ _ _ _ _ hAr.one hSr.one hIr.one)
      have HGq := Lib.hid hgq
      have HST := Lib.hid hst
      have r0 := hrq.at 0 _ rfl
      have r1 := hrq.at 1 _ rfl
      have r2 := hrq.at 2 _ rfl
      have r3 := hrq.at 3 _ rfl
      have r4 := hrq.at 4 _ rfl
      have r5 := hrq.at 5 _ rfl
      have r6 := hrq.at 6 _ rfl
      have r7 := hrq.at 7 _ rfl
      clear hst hrq hgq hsq hAr hSr hIr hBr
      go_wp2_with (refine wpList_store_run _ rfl 28 _ _ rfl _ _ rfl rfl HST.out ?_)
      refine bodyPost_ret (by simp [results, Try.results32, go_sem, r0, r1, r2, r3, r4, r5, r6, r7]; try rfl) rfl ?_
      exact ⟨_, by rw [HC.out], by rw [HC.out]; exact ⟨Ar, Sr, Ir, rfl, HVr.out.1.empty, HVr.out.2.1.empty, HVr.out.2.2.empty⟩, below_gone HBr.out HGq.out HBr.out.size (Nat.le_succ _)⟩
    | false =>
      have hl2 : (((dropL PItem.id item n.items).length : Int) == (n.items.length : Int)) = false := by rw [beq_eq_false_iff_ne] at *; omega
      have HC : Hid (retractN pr n by_ item = ({ n with items := dropL PItem.id item n.items }, 0)) := by show _ = _; rw [HC0.out, hl]; rfl
      clear hl HC0
      obtain ⟨wx, stx, hrx, hgx, _⟩ := run_store_row (P := Try.prog) HRr9.out 28 [.string n.name, .bool n.coll, .int .u8 n.access, .int .i64 n.max, .slice qA n.affs.length kA, .slice qS n.subs.length kS, .slice q8 (dropL PItem.id item n.items).length k8, .string n.parent] (sizeNode w9) rfl rfl (node_one _ _ _ _ _ _ _ _ rfl rfl rfl)
      have HAx := Lib.hid (HA9.out.gone hgx nAr)
      have HSx := Lib.hid (HS9.out.gone hgx nSr)
      have HOx := Lib.hid (HO9.out.gone hgx nOr)
      have HBx := Lib.hid (below_gone HB9.out hgx HB9.out.size (Nat.le_succ _))
      have u0 := hrx.at 0 _ rfl
      have u1 := hrx.at 1 _ rfl
      have u2 := hrx.at 2 _ rfl
      have u3 := hrx.at 3 _ rfl
      have u4 := hrx.at 4 _ rfl
      have u5 := hrx.at 5 _ rfl
      have u6 := hrx.at 6 _ rfl
      have u7 := hrx.at 7 _ rfl
      have STx := Lib.hid stx
      clear stx hrx hgx
      go_wp2_with (first
        | (refine wpList_store_run _ rfl 26 _ _ rfl _ _ rfl rfl ST9.out ?_)
        | (refine wpList_store_run _ rfl 28 _ _ rfl _ _ rfl rfl STx.out ?_))
      refine bodyPost_ret (by simp [results, Try.results32, go_sem, u0, u1, u2, u3, u4, u5, u6, u7]; try rfl) rfl ?_
      exact ⟨_, by rw [HC.out], by rw [HC.out]; exact ⟨_, _, _, rfl, HAx.out.sl PAff.enc_len, HSx.out.sl PSub.enc_len, HOx.out.sl PItem.enc_len⟩, HBx.out⟩
  · have hne : (publisherN pr n by_ 4 != 0) = true := by rw [bne_iff_ne]; exact ho
    have HC : Hid (retractN pr n by_ item = (noNode, publisherN pr n by_ 4)) := by show _ = _; unfold retractN; rw [if_pos hne]
    generalize publisherN pr n by_ 4 = c at *
    clear ho
    go_wp2_with fail
    (with_reducible refine (refused_any c w1).mono ?_)
    rintro e wr ⟨vr, rfl, hvr, hBr⟩
    obtain ⟨Ar, Sr, Ir, rfl, hAr, hSr, hIr⟩ := hvr
    have HVr := Lib.hid (And.intro hAr (And.intro hSr hIr))
    have HBr := Lib.hid (Bw1.out.trans (hBr.mono Bw1.out.size))
    obtain ⟨wq, hst, hrq, hgq, hsq⟩ := run_store_row (P := Try.prog) (Rrw1.out.below hBr) 28 [.string noNode.name, .bool noNode.coll, .int .u8 noNode.access, .int .i64 noNode.max, Ar, Sr, Ir, .string noNode.parent] (sizeNode wr) rfl rfl (node_one _ _ _ _ _ _ _ _ hAr.one hSr.one hIr.one)
    have HGq := Lib.hid hgq
    have HST := Lib.hid hst
    have r0 := hrq.at 0 _ rfl
    have r1 := hrq.at 1 _ rfl
    have r2 := hrq.at 2 _ rfl
    have r3 := hrq.at 3 _ rfl
    have r4 := hrq.at 4 _ rfl
    have r5 := hrq.at 5 _ rfl
    have r6 := hrq.at 6 _ rfl
    have r7 := hrq.at 7 _ rfl
    clear hst hrq hgq hsq hAr hSr hIr hBr
    go_wp2_with (refine wpList_store_run _ rfl 28 _ _ rfl _ _ rfl rfl HST.out ?_)
    refine bodyPost_ret (by simp [results, Try.results32, go_sem, r0, r1, r2, r3, r4, r5, r6, r7]; try rfl) rfl ?_
    exact ⟨_, by rw [HC.out], by rw [HC.out]; exact ⟨Ar, Sr, Ir, rfl, HVr.out.1.empty, HVr.out.2.1.empty, HVr.out.2.2.empty⟩, below_gone HBr.out HGq.out HBr.out.size (Nat.le_succ _)⟩
end Go.Proofs.Ytpjaopcgoaannaa
