/- node.Affiliate: what is refused ahead of all. Written by gen_n30.py. -/
import Derived.Test.YtpjaopcgoaannaaN21
namespace Go.Proofs.Ytpjaopcgoaannaa
open Go.RowKit Go.Lib
open Hb
theorem affOwn_any (x : PAff) (w : World) : Calls Try.prog 61 #[.agg x.enc.toArray] w fun e w' => e = .returned (.bool (x.role == 5)) ∧ Below w.heap.size w w' := by
  unfold PAff.enc
  generalize x.jid = a
  generalize x.role = a1
  go_enter Try.func61, Try.ntmps61
  go_wp2
  refine bodyPost_ret (by simp [results, Try.results61, go_sem]; try rfl) rfl ?_
  exact ⟨rfl, by first | exact Below.refl _ _ | exact (Below.refl w.heap.size w).alloc (Nat.le_refl _) _⟩

set_option maxRecDepth 100000 in
set_option maxHeartbeats 8000000 in
theorem affiliate_bad (v : Value) (n : PNode) (by_ who : ByteArray) (r : Int) (w : World) (hv : NodeV w v n) (hbd : Bd n) (hsw : Sm who) (hbad : ownerN pr n by_ = 0 → addrB who = true → 1 ≤ r → r ≤ 5 → False) :
    Calls Try.prog 31 #[v, .string by_, .string who, .int .u8 r] w fun e w' => ∃ v', e = .returned (.tuple #[v', .int .i64 (affiliateN pr n by_ who r).2]) ∧ NodeV w' v' (affiliateN pr n by_ who r).1 ∧ Below w.heap.size w w' := by
  have hv0 := hv
  obtain ⟨A, S, I, rfl, hA, hS, hI⟩ := hv
  obtain ⟨aA, cA, rfl⟩ := hA.form
  obtain ⟨aS, cS, rfl⟩ := hS.form
  obtain ⟨aI, cI, rfl⟩ := hI.form
  obtain ⟨W0, hW0, hB0, hr1, hr2, hs⟩ := two w 28 28 [.string n.name, .bool n.coll, .int .u8 n.access, .int .i64 n.max, .slice aA n.affs.length cA, .slice aS n.subs.length cS, .slice aI n.items.length cI, .string n.parent] [.string ⟨#[]⟩, .bool false, .int .u8 0, .int .i64 0, .slice none 0 0, .slice none 0 0, .slice none 0 0, .string ⟨#[]⟩]
  have HOw : Hid (Calls Try.prog 19 #[.agg #[.string n.name, .bool n.coll, .int .u8 n.access, .int .i64 n.max, .slice aA n.affs.length cA, .slice aS n.subs.length cS, .slice aI n.items.length cI, .string n.parent], .string by_] W0 fun e w' => e = .returned (.int .i64 (ownerN pr n by_)) ∧ Below W0.heap.size W0 w') := owner_any _ n by_ W0 (hv0.below hB0) hbd
  have HAd : Hid (∀ W, Calls Try.prog 38 #[.string who] W fun e w' => e = .returned (.bool (addrB who)) ∧ Below W.heap.size W w') := fun W => addr_any _ W hsw
  have HOn : Hid (∀ W, Below w.heap.size w W → Calls Try.prog 21 #[.agg #[.string n.name, .bool n.coll, .int .u8 n.access, .int .i64 n.max, .slice aA n.affs.length cA, .slice aS n.subs.length cS, .slice aI n.items.length cI, .string n.parent]] W fun e w' => ∃ v', e = .returned v' ∧ NodeO w' W.heap.size v' n ∧ Below W.heap.size W w') := fun W hW => own_any _ n W (hv0.below hW) (by have := hbd.affs; omega) (by have := hbd.subs; omega) (by have := hbd.items; omega)
  have c0 := hr1.at 0 _ rfl
  have c1 := hr1.at 1 _ rfl
  have c2 := hr1.at 2 _ rfl
  have c3 := hr1.at 3 _ rfl
  have c4 := hr1.at 4 _ rfl
  have c5 := hr1.at 5 _ rfl
  have c6 := hr1.at 6 _ rfl
  have c7 := hr1.at 7 _ rfl
  have HW := Lib.hid hW0
  have HB := Lib.hid hB0
  have HR := Lib.hid hr1
  have HR2 := Lib.hid hr2
  have HD := Lib.hid hbd
  have mixed : Try.prog.follows .mixedOrders = true := by kernel_rfl
  clear hW0 hB0 hr1 hr2 hs hv0 hA hS hI hbd
  have HE : Hid (ownerN pr n by_ = 0 → affiliateN pr n by_ who r = if !addrB who || decide (r < 1) || decide (5 < r) then (noNode, 1) else if !(newAffs n who r).any (fun a => a.role == 5) then (noNode, 2) else if decide (16 < (newAffs n who r).length) then (noNode, 8) else ({ n with affs := newAffs n who r, subs := if r == 1 then dropL PSub.jid who n.subs else n.subs }, 0)) := fun h => by unfold affiliateN; rw [if_neg (by rw [h]; decide)]; rfl
  have HE2 : Hid (ownerN pr n by_ ≠ 0 → affiliateN pr n by_ who r = (noNode, ownerN pr n by_)) := fun h => by unfold affiliateN; rw [if_pos (by rw [bne_iff_ne]; exact h)]
  have HBad := Lib.hid hbad
  clear hbad
  generalize addrB who = ad at *
  go_enter Try.func31, Try.ntmps31
  go_upto_region 1 with fail
  rw [HW.out]
  clear HW
  go_wp2_with fail
  (with_reducible refine HOw.out.mono ?_)
  rintro e w1 ⟨rfl, hw1⟩
  have Bw1 := Lib.hid (HB.out.trans (hw1.mono HB.out.size))
  have Rbw1 := Lib.hid (HR.out.below hw1)
  have Rrw1 := Lib.hid (HR2.out.below hw1)
  have p0 := Rbw1.out.at 0 _ rfl
  have p1 := Rbw1.out.at 1 _ rfl
  have p2 := Rbw1.out.at 2 _ rfl
  have p3 := Rbw1.out.at 3 _ rfl
  have p4 := Rbw1.out.at 4 _ rfl
  have p5 := Rbw1.out.at 5 _ rfl
  have p6 := Rbw1.out.at 6 _ rfl
  have p7 := Rbw1.out.at 7 _ rfl
  by_cases ho : ownerN pr n by_ = 0
  · have HE := Lib.hid (HE.out ho)
    have HBad : Hid (ad = true → 1 ≤ r → r ≤ 5 → False) := HBad.out ho
    rw [ho]
    clear ho HE2
    go_wp2_with fail
    (with_reducible refine (HAd.out w1).mono ?_)
    rintro e w2 ⟨rfl, hw2⟩
    have Bw2 := Lib.hid (Bw1.out.trans (hw2.mono Bw1.out.size))
    have Rbw2 := Lib.hid (Rbw1.out.below hw2)
    have Rrw2 := Lib.hid (Rrw1.out.below hw2)
    have q0 := Rbw2.out.at 0 _ rfl
    have q1 := Rbw2.out.at 1 _ rfl
    have q2 := Rbw2.out.at 2 _ rfl
    have q3 := Rbw2.out.at 3 _ rfl
    have q4 := Rbw2.out.at 4 _ rfl
    have q5 := Rbw2.out.at 5 _ rfl
    have q6 := Rbw2.out.at 6 _ rfl
    have q7 := Rbw2.out.at 7 _ rfl
    cases ad with
    | false =>
      have HC : Hid (affiliateN pr n by_ who r = (noNode, 1)) := by show _ = _; rw [HE.out]; rfl
      clear HE
      go_wp2_with fail
      (with_reducible refine (refused_any 1 w2).mono ?_)
      rintro e wr ⟨vr, rfl, hvr, hBr⟩
      obtain ⟨Ar, Sr, Ir, rfl, hAr, hSr, hIr⟩ := hvr
      have HVr := Lib.hid (And.intro hAr (And.intro hSr hIr))
      have HBr := Lib.hid (Bw2.out.trans (hBr.mono Bw2.out.size))
      obtain ⟨wq, hst, hrq, hgq, hsq⟩ := run_store_row (P := Try.prog) (Rrw2.out.below hBr) 28 [.string noNode.name, .bool noNode.coll, .int .u8 noNode.access, .int .i64 noNode.max, Ar, Sr, Ir, .string noNode.parent] (sizeNode wr) rfl rfl (node_one _ _ _ _ _ _ _ _ hAr.one hSr.one hIr.one)
      have HGq := Lib.hid hgq
      have HST := Lib.hid hst
      have r0 := hrq.at 0 _ rfl
      have r1 := hrq.at 1 _ rfl
      have r2 := hrq.at 2 _ rfl
      have r3 := hrq.at 3 _ rfl
      have r4 := hrq.at 4 _ rfl
      have r5 := hrq.at 5 _ rfl
      have r6 := hrq.at 6 _ rfl
      have r7 := hrq.at 7 _ rfl
      clear hst hrq hgq hsq hAr hSr hIr hBr
      go_wp2_with (refine wpList_store_run _ rfl 28 _ _ rfl _ _ rfl rfl HST.out ?_)
      refine bodyPost_ret (by simp [results, Try.results31, go_sem, r0, r1, r2, r3, r4, r5, r6, r7]; try rfl) rfl ?_
      exact ⟨_, by rw [HC.out], by rw [HC.out]; exact ⟨Ar, Sr, Ir, rfl, HVr.out.1.empty, HVr.out.2.1.empty, HVr.out.2.2.empty⟩, below_gone HBr.out HGq.out HBr.out.size (Nat.le_succ _)⟩
    | true =>
    by_cases h1 : r < 1
    · have e1 : decide (r < 1) = true := decide_eq_true h1
      have HC : Hid (affiliateN pr n by_ who r = (noNode, 1)) := by show _ = _; rw [HE.out]; rw [e1]; rfl
      clear HE
      go_wp2_with fail
      (with_reducible refine (refused_any 1 w2).mono ?_)
      rintro e wr ⟨vr, rfl, hvr, hBr⟩
      obtain ⟨Ar, Sr, Ir, rfl, hAr, hSr, hIr⟩ := hvr
      have HVr := Lib.hid (And.intro hAr (And.intro hSr hIr))
      have HBr := Lib.hid (Bw2.out.trans (hBr.mono Bw2.out.size))
      obtain ⟨wq, hst, hrq, hgq, hsq⟩ := run_store_row (P := Try.prog) (Rrw2.out.below hBr) 28 [.string noNode.name, .bool noNode.coll, .int .u8 noNode.access, .int .i64 noNode.max, Ar, Sr, Ir, .string noNode.parent] (sizeNode wr) rfl rfl (node_one _ _ _ _ _ _ _ _ hAr.one hSr.one hIr.one)
      have HGq := Lib.hid hgq
      have HST := Lib.hid hst
      have r0 := hrq.at 0 _ rfl
      have r1 := hrq.at 1 _ rfl
      have r2 := hrq.at 2 _ rfl
      have r3 := hrq.at 3 _ rfl
      have r4 := hrq.at 4 _ rfl
      have r5 := hrq.at 5 _ rfl
      have r6 := hrq.at 6 _ rfl
      have r7 := hrq.at 7 _ rfl
      clear hst hrq hgq hsq hAr hSr hIr hBr
      go_wp2_with (refine wpList_store_run _ rfl 28 _ _ rfl _ _ rfl rfl HST.out ?_)
      refine bodyPost_ret (by simp [results, Try.results31, go_sem, r0, r1, r2, r3, r4, r5, r6, r7]; try rfl) rfl ?_
      exact ⟨_, by rw [HC.out], by rw [HC.out]; exact ⟨Ar, Sr, Ir, rfl, HVr.out.1.empty, HVr.out.2.1.empty, HVr.out.2.2.empty⟩, below_gone HBr.out HGq.out HBr.out.size (Nat.le_succ _)⟩
    have e1 : decide (r < 1) = false := decide_eq_false h1
    by_cases h2 : 5 < r
    · have e2 : decide (5 < r) = true := decide_eq_true h2
      have HC : Hid (affiliateN pr n by_ who r = (noNode, 1)) := by show _ = _; rw [HE.out]; rw [e1, e2]; rfl
      clear HE
      go_wp2_with fail
      (with_reducible refine (refused_any 1 w2).mono ?_)
      rintro e wr ⟨vr, rfl, hvr, hBr⟩
      obtain ⟨Ar, Sr, Ir, rfl, hAr, hSr, hIr⟩ := hvr
      have HVr := Lib.hid (And.intro hAr (And.intro hSr hIr))
      have HBr := Lib.hid (Bw2.out.trans (hBr.mono Bw2.out.size))
      obtain ⟨wq, hst, hrq, hgq, hsq⟩ := run_store_row (P := Try.prog) (Rrw2.out.below hBr) 28 [.string noNode.name, .bool noNode.coll, .int .u8 noNode.access, .int .i64 noNode.max, Ar, Sr, Ir, .string noNode.parent] (sizeNode wr) rfl rfl (node_one _ _ _ _ _ _ _ _ hAr.one hSr.one hIr.one)
      have HGq := Lib.hid hgq
      have HST := Lib.hid hst
      have r0 := hrq.at 0 _ rfl
      have r1 := hrq.at 1 _ rfl
      have r2 := hrq.at 2 _ rfl
      have r3 := hrq.at 3 _ rfl
      have r4 := hrq.at 4 _ rfl
      have r5 := hrq.at 5 _ rfl
      have r6 := hrq.at 6 _ rfl
      have r7 := hrq.at 7 _ rfl
      clear hst hrq hgq hsq hAr hSr hIr hBr
      go_wp2_with (refine wpList_store_run _ rfl 28 _ _ rfl _ _ rfl rfl HST.out ?_)
      refine bodyPost_ret (by simp [results, Try.results31, go_sem, r0, r1, r2, r3, r4, r5, r6, r7]; try rfl) rfl ?_
      exact ⟨_, by rw [HC.out], by rw [HC.out]; exact ⟨Ar, Sr, Ir, rfl, HVr.out.1.empty, HVr.out.2.1.empty, HVr.out.2.2.empty⟩, below_gone HBr.out HGq.out HBr.out.size (Nat.le_succ _)⟩
    exact (HBad.out rfl (by omega) (by omega)).elim
  · have hne : (ownerN pr n by_ != 0) = true := by rw [bne_iff_ne]; exact ho
    have HC : Hid (affiliateN pr n by_ who r = (noNode, ownerN pr n by_)) := HE2.out ho
    clear HE HE2 HBad
    generalize ownerN pr n by_ = c at *
    clear ho
    go_wp2_with fail
    (with_reducible refine (refused_any c w1).mono ?_)
    rintro e wr ⟨vr, rfl, hvr, hBr⟩
    obtain ⟨Ar, Sr, Ir, rfl, hAr, hSr, hIr⟩ := hvr
    have HVr := Lib.hid (And.intro hAr (And.intro hSr hIr))
    have HBr := Lib.hid (Bw1.out.trans (hBr.mono Bw1.out.size))
    obtain ⟨wq, hst, hrq, hgq, hsq⟩ := run_store_row (P := Try.prog) (Rrw1.out.below hBr) 28 [.string noNode.name, .bool noNode.coll, .int .u8 noNode.access, .int .i64 noNode.max, Ar, Sr, Ir, .string noNode.parent] (sizeNode wr) rfl rfl (node_one _ _ _ _ _ _ _ _ hAr.one hSr.one hIr.one)
    have HGq := Lib.hid hgq
    have HST := Lib.hid hst
    have r0 := hrq.at 0 _ rfl
    have r1 := hrq.at 1 _ rfl
    have r2 := hrq.at 2 _ rfl
    have r3 := hrq.at 3 _ rfl
    have r4 := hrq.at 4 _ rfl
    have r5 := hrq.at 5 _ rfl
    have r6 := hrq.at 6 _ rfl
    have r7 := hrq.at 7 _ rfl
    clear hst hrq hgq hsq hAr hSr hIr hBr
    go_wp2_with (refine wpList_store_run _ rfl 28 _ _ rfl _ _ rfl rfl HST.out ?_)
    refine bodyPost_ret (by simp [results, Try.results31, go_sem, r0, r1, r2, r3, r4, r5, r6, r7]; try rfl) rfl ?_
    exact ⟨_, by rw [HC.out], by rw [HC.out]; exact ⟨Ar, Sr, Ir, rfl, HVr.out.1.empty, HVr.out.2.1.empty, HVr.out.2.2.empty⟩, below_gone HBr.out HGq.out HBr.out.size (Nat.le_succ _)⟩
end Go.Proofs.Ytpjaopcgoaannaa
