/- node.Subscribe. Written by gen_n22.py. -/
import Derived.Test.YtpjaopcgoaannaaGreatDoorN21
namespace Go.Proofs.YtpjaopcgoaannaaGreatDoor
open Go.RowKit Go.Lib
open Hb

set_option maxRecDepth 100000 in
set_option maxHeartbeats 8000000 in
theorem subscribe_any (v : Value) (n : PNode) (who : ByteArray) (depth : Int) (w : World) (hv : NodeV w v n) (hbd : Bd n) (hsw : Sm who) :
    Calls Tryz.prog 19 #[v, .string who, .int .i64 depth] w fun e w' => ∃ v', e = .returned (.tuple #[v', .int .i64 (subscribeN pr n who depth).2]) ∧ NodeV w' v' (subscribeN pr n who depth).1 ∧ Below w.heap.size w w' := by
  have hv0 := hv
  obtain ⟨A, S, I, rfl, hA, hS, hI⟩ := hv
  obtain ⟨aA, cA, rfl⟩ := hA.form
  obtain ⟨aS, cS, rfl⟩ := hS.form
  obtain ⟨aI, cI, rfl⟩ := hI.form
  obtain ⟨W0, hW0, hB0, hr1, hr2, hs⟩ := two w 27 27 [.string n.name, .bool n.coll, .int .u8 n.access, .int .i64 n.max, .slice aA n.affs.length cA, .slice aS n.subs.length cS, .slice aI n.items.length cI, .string n.parent] [.string ⟨#[]⟩, .bool false, .int .u8 0, .int .i64 0, .slice none 0 0, .slice none 0 0, .slice none 0 0, .string ⟨#[]⟩]
  have HRi : Hid (Calls Tryz.prog 9 #[.agg #[.string n.name, .bool n.coll, .int .u8 n.access, .int .i64 n.max, .slice aA n.affs.length cA, .slice aS n.subs.length cS, .slice aI n.items.length cI, .string n.parent]] W0 fun e w' => e = .returned (.bool (rightN pr n)) ∧ Below W0.heap.size W0 w') := right_any _ n W0 (hv0.below hB0) hbd
  have HAd : Hid (∀ W, Calls Tryz.prog 28 #[.string who] W fun e w' => e = .returned (.bool (addrB who)) ∧ Below W.heap.size W w') := fun W => addr_any _ W hsw
  have HRo : Hid (∀ W, Below w.heap.size w W → Calls Tryz.prog 22 #[.agg #[.string n.name, .bool n.coll, .int .u8 n.access, .int .i64 n.max, .slice aA n.affs.length cA, .slice aS n.subs.length cS, .slice aI n.items.length cI, .string n.parent], .string who] W fun e w' => e = .returned (.int .u8 (roleN n who)) ∧ Below W.heap.size W w') := fun W hW => role_any _ n who W (hv0.below hW) (by have := hbd.affs; omega)
  have HSu : Hid (∀ W, Below w.heap.size w W → Calls Tryz.prog 20 #[.agg #[.string n.name, .bool n.coll, .int .u8 n.access, .int .i64 n.max, .slice aA n.affs.length cA, .slice aS n.subs.length cS, .slice aI n.items.length cI, .string n.parent], .string who] W fun e w' => e = .returned (.tuple #[.agg #[.string (subN n who).1.jid, .bool (subN n who).1.pending, .int .i64 (subN n who).1.depth], .bool (subN n who).2]) ∧ Below W.heap.size W w') := fun W hW => sub_any _ n who W (hv0.below hW) (by have := hbd.subs; omega)
  have HOn : Hid (∀ W, Below w.heap.size w W → Calls Tryz.prog 39 #[.agg #[.string n.name, .bool n.coll, .int .u8 n.access, .int .i64 n.max, .slice aA n.affs.length cA, .slice aS n.subs.length cS, .slice aI n.items.length cI, .string n.parent]] W fun e w' => ∃ v', e = .returned v' ∧ NodeO w' W.heap.size v' n ∧ Below W.heap.size W w') := fun W hW => own_any _ n W (hv0.below hW) (by have := hbd.affs; omega) (by have := hbd.subs; omega) (by have := hbd.items; omega)
  have c0 := hr1.at 0 _ rfl
  have c1 := hr1.at 1 _ rfl
  have c2 := hr1.at 2 _ rfl
  have c3 := hr1.at 3 _ rfl
  have c4 := hr1.at 4 _ rfl
  have c5 := hr1.at 5 _ rfl
  have c6 := hr1.at 6 _ rfl
  have c7 := hr1.at 7 _ rfl
  have HW := Lib.hid hW0
  have HB := Lib.hid hB0
  have HR := Lib.hid hr1
  have HR2 := Lib.hid hr2
  have HD := Lib.hid hbd
  have mixed : Tryz.prog.follows .mixedOrders = true := by kernel_rfl
  clear hW0 hB0 hr1 hr2 hs hv0 hA hS hI hbd
  have HE : Hid (subscribeN pr n who depth = if !rightN pr n || !addrB who || decide (depth < 0) || decide (255 < depth) then (noNode, 1) else if roleN n who == 1 then (noNode, 3) else if !decide (2 < roleN n who) && n.access == 2 then (noNode, 6) else if (subN n who).2 && (subN n who).1.pending then (noNode, 7) else if !(subN n who).2 && n.subs.length == 16 then (noNode, 8) else ({ n with subs := setL PSub.jid (if (subN n who).2 then ⟨(subN n who).1.jid, (subN n who).1.pending, depth⟩ else ⟨who, !decide (2 < roleN n who) && n.access == 1, depth⟩) n.subs }, 0)) := rfl
  have HF9 : Hid (rightN pr n = true → Ris PSub.jid n.subs) := fun h => ((right_iff pr n).1 h).subRis
  generalize rightN pr n = rt at *
  generalize addrB who = ad at *
  generalize roleN n who = rl at *
  generalize (subN n who).1.jid = s0 at *
  generalize (subN n who).1.pending = s1 at *
  generalize (subN n who).1.depth = s2 at *
  generalize (subN n who).2 = sb at *
  go_enter Tryz.func19, Tryz.ntmps19
  go_upto_region 1 with fail
  rw [HW.out]
  clear HW
  go_wp2_with fail
  (with_reducible refine HRi.out.mono ?_)
  rintro e w1 ⟨rfl, hw1⟩
  have Bw1 := Lib.hid (HB.out.trans (hw1.mono HB.out.size))
  have Rbw1 := Lib.hid (HR.out.below hw1)
  have Rrw1 := Lib.hid (HR2.out.below hw1)
  cases rt with
  | false =>
    have HC : Hid (subscribeN pr n who depth = (noNode, 1)) := by show _ = _; rw [HE.out]; rfl
    clear HE HF9
    go_wp2_with fail
    (with_reducible refine (refused_any 1 w1).mono ?_)
    rintro e wr ⟨vr, rfl, hvr, hBr⟩
    obtain ⟨Ar, Sr, Ir, rfl, hAr, hSr, hIr⟩ := hvr
    have HVr := Lib.hid (And.intro hAr (And.intro hSr hIr))
    have HBr := Lib.hid (Bw1.out.trans (hBr.mono Bw1.out.size))
    obtain ⟨wq, hst, hrq, hgq, hsq⟩ := run_store_row (P := Tryz.prog) (Rrw1.out.below hBr) 27 [.string noNode.name, .bool noNode.coll, .int .u8 noNode.access, .int .i64 noNode.max, Ar, Sr, Ir, .string noNode.parent] (sizeNode wr) rfl rfl (node_one _ _ _ _ _ _ _ _ hAr.one hSr.one hIr.one)
    have HGq := Lib.hid hgq
    have HST := Lib.hid hst
    have r0 := hrq.at 0 _ rfl
    have r1 := hrq.at 1 _ rfl
    have r2 := hrq.at 2 _ rfl
    have r3 := hrq.at 3 _ rfl
    have r4 := hrq.at 4 _ rfl
    have r5 := hrq.at 5 _ rfl
    have r6 := hrq.at 6 _ rfl
    have r7 := hrq.at 7 _ rfl
    clear hst hrq hgq hsq hAr hSr hIr hBr
    go_wp2_with (refine wpList_store_run _ rfl 27 _ _ rfl _ _ rfl rfl HST.out ?_)
    refine bodyPost_ret (by simp [results, Tryz.results19, go_sem, r0, r1, r2, r3, r4, r5, r6, r7]; try rfl) rfl ?_
    exact ⟨_, by rw [HC.out], by rw [HC.out]; exact ⟨Ar, Sr, Ir, rfl, HVr.out.1.empty, HVr.out.2.1.empty, HVr.out.2.2.empty⟩, below_gone HBr.out HGq.out HBr.out.size (Nat.le_succ _)⟩
  | true =>
  go_wp2_with fail
  (with_reducible refine (HAd.out w1).mono ?_)
  rintro e w2 ⟨rfl, hw2⟩
  have Bw2 := Lib.hid (Bw1.out.trans (hw2.mono Bw1.out.size))
  have Rbw2 := Lib.hid (Rbw1.out.below hw2)
  have Rrw2 := Lib.hid (Rrw1.out.below hw2)
  have p0 := Rbw2.out.at 0 _ rfl
  have p1 := Rbw2.out.at 1 _ rfl
  have p2 := Rbw2.out.at 2 _ rfl
  have p3 := Rbw2.out.at 3 _ rfl
  have p4 := Rbw2.out.at 4 _ rfl
  have p5 := Rbw2.out.at 5 _ rfl
  have p6 := Rbw2.out.at 6 _ rfl
  have p7 := Rbw2.out.at 7 _ rfl
  cases ad with
  | false =>
    have HC : Hid (subscribeN pr n who depth = (noNode, 1)) := by show _ = _; rw [HE.out]; rfl
    clear HE HF9
    go_wp2_with fail
    (with_reducible refine (refused_any 1 w2).mono ?_)
    rintro e wr ⟨vr, rfl, hvr, hBr⟩
    obtain ⟨Ar, Sr, Ir, rfl, hAr, hSr, hIr⟩ := hvr
    have HVr := Lib.hid (And.intro hAr (And.intro hSr hIr))
    have HBr := Lib.hid (Bw2.out.trans (hBr.mono Bw2.out.size))
    obtain ⟨wq, hst, hrq, hgq, hsq⟩ := run_store_row (P := Tryz.prog) (Rrw2.out.below hBr) 27 [.string noNode.name, .bool noNode.coll, .int .u8 noNode.access, .int .i64 noNode.max, Ar, Sr, Ir, .string noNode.parent] (sizeNode wr) rfl rfl (node_one _ _ _ _ _ _ _ _ hAr.one hSr.one hIr.one)
    have HGq := Lib.hid hgq
    have HST := Lib.hid hst
    have r0 := hrq.at 0 _ rfl
    have r1 := hrq.at 1 _ rfl
    have r2 := hrq.at 2 _ rfl
    have r3 := hrq.at 3 _ rfl
    have r4 := hrq.at 4 _ rfl
    have r5 := hrq.at 5 _ rfl
    have r6 := hrq.at 6 _ rfl
    have r7 := hrq.at 7 _ rfl
    clear hst hrq hgq hsq hAr hSr hIr hBr
    go_wp2_with (refine wpList_store_run _ rfl 27 _ _ rfl _ _ rfl rfl HST.out ?_)
    refine bodyPost_ret (by simp [results, Tryz.results19, go_sem, r0, r1, r2, r3, r4, r5, r6, r7]; try rfl) rfl ?_
    exact ⟨_, by rw [HC.out], by rw [HC.out]; exact ⟨Ar, Sr, Ir, rfl, HVr.out.1.empty, HVr.out.2.1.empty, HVr.out.2.2.empty⟩, below_gone HBr.out HGq.out HBr.out.size (Nat.le_succ _)⟩
  | true =>
  by_cases h1 : depth < 0
  · have e1 : decide (depth < 0) = true := decide_eq_true h1
    have HC : Hid (subscribeN pr n who depth = (noNode, 1)) := by show _ = _; rw [HE.out]; rw [e1]; rfl
    clear HE HF9
    go_wp2_with fail
    (with_reducible refine (refused_any 1 w2).mono ?_)
    rintro e wr ⟨vr, rfl, hvr, hBr⟩
    obtain ⟨Ar, Sr, Ir, rfl, hAr, hSr, hIr⟩ := hvr
    have HVr := Lib.hid (And.intro hAr (And.intro hSr hIr))
    have HBr := Lib.hid (Bw2.out.trans (hBr.mono Bw2.out.size))
    obtain ⟨wq, hst, hrq, hgq, hsq⟩ := run_store_row (P := Tryz.prog) (Rrw2.out.below hBr) 27 [.string noNode.name, .bool noNode.coll, .int .u8 noNode.access, .int .i64 noNode.max, Ar, Sr, Ir, .string noNode.parent] (sizeNode wr) rfl rfl (node_one _ _ _ _ _ _ _ _ hAr.one hSr.one hIr.one)
    have HGq := Lib.hid hgq
    have HST := Lib.hid hst
    have r0 := hrq.at 0 _ rfl
    have r1 := hrq.at 1 _ rfl
    have r2 := hrq.at 2 _ rfl
    have r3 := hrq.at 3 _ rfl
    have r4 := hrq.at 4 _ rfl
    have r5 := hrq.at 5 _ rfl
    have r6 := hrq.at 6 _ rfl
    have r7 := hrq.at 7 _ rfl
    clear hst hrq hgq hsq hAr hSr hIr hBr
    go_wp2_with (refine wpList_store_run _ rfl 27 _ _ rfl _ _ rfl rfl HST.out ?_)
    refine bodyPost_ret (by simp [results, Tryz.results19, go_sem, r0, r1, r2, r3, r4, r5, r6, r7]; try rfl) rfl ?_
    exact ⟨_, by rw [HC.out], by rw [HC.out]; exact ⟨Ar, Sr, Ir, rfl, HVr.out.1.empty, HVr.out.2.1.empty, HVr.out.2.2.empty⟩, below_gone HBr.out HGq.out HBr.out.size (Nat.le_succ _)⟩
  have e1 : decide (depth < 0) = false := decide_eq_false h1
  by_cases h2 : 255 < depth
  · have e2 : decide (255 < depth) = true := decide_eq_true h2
    have HC : Hid (subscribeN pr n who depth = (noNode, 1)) := by show _ = _; rw [HE.out]; rw [e1, e2]; rfl
    clear HE HF9
    go_wp2_with fail
    (with_reducible refine (refused_any 1 w2).mono ?_)
    rintro e wr ⟨vr, rfl, hvr, hBr⟩
    obtain ⟨Ar, Sr, Ir, rfl, hAr, hSr, hIr⟩ := hvr
    have HVr := Lib.hid (And.intro hAr (And.intro hSr hIr))
    have HBr := Lib.hid (Bw2.out.trans (hBr.mono Bw2.out.size))
    obtain ⟨wq, hst, hrq, hgq, hsq⟩ := run_store_row (P := Tryz.prog) (Rrw2.out.below hBr) 27 [.string noNode.name, .bool noNode.coll, .int .u8 noNode.access, .int .i64 noNode.max, Ar, Sr, Ir, .string noNode.parent] (sizeNode wr) rfl rfl (node_one _ _ _ _ _ _ _ _ hAr.one hSr.one hIr.one)
    have HGq := Lib.hid hgq
    have HST := Lib.hid hst
    have r0 := hrq.at 0 _ rfl
    have r1 := hrq.at 1 _ rfl
    have r2 := hrq.at 2 _ rfl
    have r3 := hrq.at 3 _ rfl
    have r4 := hrq.at 4 _ rfl
    have r5 := hrq.at 5 _ rfl
    have r6 := hrq.at 6 _ rfl
    have r7 := hrq.at 7 _ rfl
    clear hst hrq hgq hsq hAr hSr hIr hBr
    go_wp2_with (refine wpList_store_run _ rfl 27 _ _ rfl _ _ rfl rfl HST.out ?_)
    refine bodyPost_ret (by simp [results, Tryz.results19, go_sem, r0, r1, r2, r3, r4, r5, r6, r7]; try rfl) rfl ?_
    exact ⟨_, by rw [HC.out], by rw [HC.out]; exact ⟨Ar, Sr, Ir, rfl, HVr.out.1.empty, HVr.out.2.1.empty, HVr.out.2.2.empty⟩, below_gone HBr.out HGq.out HBr.out.size (Nat.le_succ _)⟩
  have e2 : decide (255 < depth) = false := decide_eq_false h2
  rw [e1, e2] at HE
  have HRo2 := Lib.hid (HRo.out w2 Bw2.out)
  go_wp2_with fail
  (with_reducible refine HRo2.out.mono ?_)
  rintro e w3 ⟨rfl, hw3⟩
  have Bw3 := Lib.hid (Bw2.out.trans (hw3.mono Bw2.out.size))
  have Rbw3 := Lib.hid (Rbw2.out.below hw3)
  have Rrw3 := Lib.hid (Rrw2.out.below hw3)
  have q0 := Rbw3.out.at 0 _ rfl
  have q1 := Rbw3.out.at 1 _ rfl
  have q2 := Rbw3.out.at 2 _ rfl
  have q3 := Rbw3.out.at 3 _ rfl
  have q4 := Rbw3.out.at 4 _ rfl
  have q5 := Rbw3.out.at 5 _ rfl
  have q6 := Rbw3.out.at 6 _ rfl
  have q7 := Rbw3.out.at 7 _ rfl
  have HSu3 := Lib.hid (HSu.out w3 Bw3.out)
  clear h1 h2
  go_wp2_with fail
  (with_reducible refine HSu3.out.mono ?_)
  rintro e w4 ⟨rfl, hw4⟩
  have Bw4 := Lib.hid (Bw3.out.trans (hw4.mono Bw3.out.size))
  have Rbw4 := Lib.hid (Rbw3.out.below hw4)
  have Rrw4 := Lib.hid (Rrw3.out.below hw4)
  have hwlt : w.heap.size < w4.heap.size ∧ w.heap.size + 1 < w4.heap.size := ⟨Rbw4.out.lt, Rrw4.out.lt⟩
  obtain ⟨w5, hw5, hB5, hs5, hsz5⟩ := one w4 51 [.string s0, .bool s1, .int .i64 s2]
  have Bw5 := Lib.hid (Bw4.out.trans (hB5.mono Bw4.out.size))
  have Rbw5 := Lib.hid (Rbw4.out.below hB5)
  have Rrw5 := Lib.hid (Rrw4.out.below hB5)
  have HS5 := Lib.hid hs5
  have t0 := Rbw5.out.at 0 _ rfl
  have t1 := Rbw5.out.at 1 _ rfl
  have t2 := Rbw5.out.at 2 _ rfl
  have t3 := Rbw5.out.at 3 _ rfl
  have t4 := Rbw5.out.at 4 _ rfl
  have t5 := Rbw5.out.at 5 _ rfl
  have t6 := Rbw5.out.at 6 _ rfl
  have t7 := Rbw5.out.at 7 _ rfl
  have HRo5 := Lib.hid (HRo.out w5 Bw5.out)
  have HW5 := Lib.hid hw5
  clear hw5 hB5 hs5 hsz5
  go_upto_region 5 with fail
  rw [HW5.out]
  clear HW5
  go_wp2_with fail
  (with_reducible refine HRo5.out.mono ?_)
  rintro e w6 ⟨rfl, hw6⟩
  have Bw6 := Lib.hid (Bw5.out.trans (hw6.mono Bw5.out.size))
  have Rbw6 := Lib.hid (Rbw5.out.below hw6)
  have Rrw6 := Lib.hid (Rrw5.out.below hw6)
  have x0 := Rbw6.out.at 0 _ rfl
  have x1 := Rbw6.out.at 1 _ rfl
  have x2 := Rbw6.out.at 2 _ rfl
  have x3 := Rbw6.out.at 3 _ rfl
  have x4 := Rbw6.out.at 4 _ rfl
  have x5 := Rbw6.out.at 5 _ rfl
  have x6 := Rbw6.out.at 6 _ rfl
  have x7 := Rbw6.out.at 7 _ rfl
  have HS6 := Lib.hid (HS5.out.below hw6)
  have y0 := HS6.out.at 0 _ rfl
  have y1 := HS6.out.at 1 _ rfl
  have y2 := HS6.out.at 2 _ rfl
  by_cases h3 : rl = 1
  · subst h3
    have HC : Hid (subscribeN pr n who depth = (noNode, 3)) := by show _ = _; rw [HE.out]; rfl
    clear HE HF9
    go_wp2_with fail
    (with_reducible refine (refused_any 3 w6).mono ?_)
    rintro e wr ⟨vr, rfl, hvr, hBr⟩
    obtain ⟨Ar, Sr, Ir, rfl, hAr, hSr, hIr⟩ := hvr
    have HVr := Lib.hid (And.intro hAr (And.intro hSr hIr))
    have HBr := Lib.hid (Bw6.out.trans (hBr.mono Bw6.out.size))
    obtain ⟨wq, hst, hrq, hgq, hsq⟩ := run_store_row (P := Tryz.prog) (Rrw6.out.below hBr) 27 [.string noNode.name, .bool noNode.coll, .int .u8 noNode.access, .int .i64 noNode.max, Ar, Sr, Ir, .string noNode.parent] (sizeNode wr) rfl rfl (node_one _ _ _ _ _ _ _ _ hAr.one hSr.one hIr.one)
    have HGq := Lib.hid hgq
    have HST := Lib.hid hst
    have r0 := hrq.at 0 _ rfl
    have r1 := hrq.at 1 _ rfl
    have r2 := hrq.at 2 _ rfl
    have r3 := hrq.at 3 _ rfl
    have r4 := hrq.at 4 _ rfl
    have r5 := hrq.at 5 _ rfl
    have r6 := hrq.at 6 _ rfl
    have r7 := hrq.at 7 _ rfl
    clear hst hrq hgq hsq hAr hSr hIr hBr
    go_wp2_with (refine wpList_store_run _ rfl 27 _ _ rfl _ _ rfl rfl HST.out ?_)
    refine bodyPost_ret (by simp [results, Tryz.results19, go_sem, r0, r1, r2, r3, r4, r5, r6, r7]; try rfl) rfl ?_
    exact ⟨_, by rw [HC.out], by rw [HC.out]; exact ⟨Ar, Sr, Ir, rfl, HVr.out.1.empty, HVr.out.2.1.empty, HVr.out.2.2.empty⟩, below_gone HBr.out HGq.out HBr.out.size (Nat.le_succ _)⟩
  have e3 : (rl == 1) = false := beq_eq_false_iff_ne.2 h3
  rw [e3] at HE
  clear h3
  generalize hmbx : decide (2 < rl) = mb at *
  clear hmbx HRi HAd HRo HRo2 HRo5 HSu HSu3 HS5 HR HR2 HB Rbw1 Rrw1 Rbw2 Rrw2 Rbw3 Rrw3 Rbw4 Rrw4 Rbw5 Rrw5 Bw1 Bw2 Bw3 Bw4 e1 e2
  cases mb with
  | true =>
    cases sb with
    | true =>
      cases s1 with
      | true =>
        have HC : Hid (subscribeN pr n who depth = (noNode, 7)) := by show _ = _; rw [HE.out]; rfl
        clear HE HF9
        go_wp2_with fail
        (with_reducible refine (refused_any 7 w6).mono ?_)
        rintro e wr ⟨vr, rfl, hvr, hBr⟩
        obtain ⟨Ar, Sr, Ir, rfl, hAr, hSr, hIr⟩ := hvr
        have HVr := Lib.hid (And.intro hAr (And.intro hSr hIr))
        have HBr := Lib.hid (Bw6.out.trans (hBr.mono Bw6.out.size))
        obtain ⟨wq, hst, hrq, hgq, hsq⟩ := run_store_row (P := Tryz.prog) (Rrw6.out.below hBr) 27 [.string noNode.name, .bool noNode.coll, .int .u8 noNode.access, .int .i64 noNode.max, Ar, Sr, Ir, .string noNode.parent] (sizeNode wr) rfl rfl (node_one _ _ _ _ _ _ _ _ hAr.one hSr.one hIr.one)
        have HGq := Lib.hid hgq
        have HST := Lib.hid hst
        have r0 := hrq.at 0 _ rfl
        have r1 := hrq.at 1 _ rfl
        have r2 := hrq.at 2 _ rfl
        have r3 := hrq.at 3 _ rfl
        have r4 := hrq.at 4 _ rfl
        have r5 := hrq.at 5 _ rfl
        have r6 := hrq.at 6 _ rfl
        have r7 := hrq.at 7 _ rfl
        clear hst hrq hgq hsq hAr hSr hIr hBr
        go_wp2_with (refine wpList_store_run _ rfl 27 _ _ rfl _ _ rfl rfl HST.out ?_)
        refine bodyPost_ret (by simp [results, Tryz.results19, go_sem, r0, r1, r2, r3, r4, r5, r6, r7]; try rfl) rfl ?_
        exact ⟨_, by rw [HC.out], by rw [HC.out]; exact ⟨Ar, Sr, Ir, rfl, HVr.out.1.empty, HVr.out.2.1.empty, HVr.out.2.2.empty⟩, below_gone HBr.out HGq.out HBr.out.size (Nat.le_succ _)⟩
      | false =>
        have HC : Hid (subscribeN pr n who depth = ({ n with subs := setL PSub.jid ⟨s0, false, depth⟩ n.subs }, 0)) := by show _ = _; rw [HE.out]; rfl
        clear HE
        obtain ⟨wz, stz, hrz, hgz, _⟩ := run_store_one (P := Tryz.prog) HS6.out 3 2 (.int .i64 depth) (Tryz.sizeOf3 _) (by simp) rfl rfl
        have Bz := Lib.hid (below_gone Bw6.out hgz Bw6.out.size (Nat.le_of_lt hwlt.1))
        have Rbz := Lib.hid (Rbw6.out.gone hgz (Nat.ne_of_lt hwlt.1))
        have Rrz := Lib.hid (Rrw6.out.gone hgz (Nat.ne_of_lt hwlt.2))
        have HSz := Lib.hid hrz
        have STz := Lib.hid stz
        clear hrz hgz stz
        go_upto_region 16 with (first
          | (refine wpList_store_run _ rfl 3 _ _ rfl _ _ rfl rfl STz.out ?_))
        have o0 := Rbz.out.at 0 _ rfl
        have o1 := Rbz.out.at 1 _ rfl
        have o2 := Rbz.out.at 2 _ rfl
        have o3 := Rbz.out.at 3 _ rfl
        have o4 := Rbz.out.at 4 _ rfl
        have o5 := Rbz.out.at 5 _ rfl
        have o6 := Rbz.out.at 6 _ rfl
        have o7 := Rbz.out.at 7 _ rfl
        have HB1 := Bz
        have HR1 := Rbz
        have HR21 := Rrz
        go_wp2_with fail
        (with_reducible refine (HOn.out wz HB1.out).mono ?_)
        rintro e w2 ⟨v2, rfl, hv2, hB2⟩
        obtain ⟨A2, S2, I2, rfl, hA2, hS2, hI2⟩ := hv2
        have HB2 := Lib.hid (HB1.out.trans (hB2.mono HB1.out.size))
        have HRb := Lib.hid (HR1.out.below hB2)
        have HRr := Lib.hid (HR21.out.below hB2)
        have hA2 := hA2.mono HB1.out.size
        have hS2 := hS2.mono HB1.out.size
        have hI2 := hI2.mono HB1.out.size
        obtain ⟨qA, kA, rfl⟩ := row_slice hA2
        obtain ⟨qS, kS, rfl⟩ := row_slice hS2
        obtain ⟨qI, kI, rfl⟩ := row_slice hI2
        have nAb := hA2.ne HRb.out (by decide)
        have nSb := hS2.ne HRb.out (by decide)
        have nIb := hI2.ne HRb.out (by decide)
        have nAr := hA2.ne HRr.out (by decide)
        have nSr := hS2.ne HRr.out (by decide)
        have nIr := hI2.ne HRr.out (by decide)
        obtain ⟨w3, hst3, hr3, hg3, hs3⟩ := run_store_row (P := Tryz.prog) HRb.out 27 [.string n.name, .bool n.coll, .int .u8 n.access, .int .i64 n.max, .slice qA n.affs.length kA, .slice qS n.subs.length kS, .slice qI n.items.length kI, .string n.parent] (sizeNode w2) rfl rfl (node_one _ _ _ _ _ _ _ _ rfl rfl rfl)
        have hb3 : w.heap.size ≤ w2.heap.size := HB2.out.size
        have HB3 := Lib.hid (below_gone HB2.out hg3 HB2.out.size (Nat.le_refl _))
        have HA3 := Lib.hid (hA2.gone hg3 nAb)
        have HS3 := Lib.hid (hS2.gone hg3 nSb)
        have HI3 := Lib.hid (hI2.gone hg3 nIb)
        have HRr3 := Lib.hid (HRr.out.gone hg3 (by omega))
        have HRb3 := Lib.hid hr3
        have HST3 := Lib.hid hst3
        have s3 := hr3.at 3 _ rfl
        have s4 := hr3.at 4 _ rfl
        have s5 := hr3.at 5 _ rfl
        have s6 := hr3.at 6 _ rfl
        have HSx := Lib.hid ((HSz.out.below hB2).gone hg3 (by omega))
        clear hst3 hr3 hg3 hs3 hA2 hS2 hI2 hB2
        have z0 := HSx.out.at 0 _ rfl
        have z1 := HSx.out.at 1 _ rfl
        have z2 := HSx.out.at 2 _ rfl
        have HSet := Lib.hid (setSub_any w.heap.size (.slice qS n.subs.length kS) n.subs ⟨s0, false, depth⟩ w3 HS3.out HB3.out.size (by first | exact HF9.out rfl | exact HF9.out trivial) HD.out.subs)
        have aA := HA3.out.apart HS3.out (by decide)
        have aI := HI3.out.apart HS3.out (by decide)
        go_wp2_with (refine wpList_store_run _ rfl 27 _ _ rfl _ _ rfl rfl HST3.out ?_)
        (with_reducible refine HSet.out.mono ?_)
        rintro e w8 ⟨v8, rfl, ho8, hg8⟩
        obtain ⟨q8, k8, rfl⟩ := row_slice ho8
        have HB8 := Lib.hid (below_goneR HB3.out hg8 HS3.out HB3.out.size (Nat.le_refl _))
        have HRb8 := Lib.hid (HRb3.out.goneR hg8 nSb)
        have HRr8 := Lib.hid (HRr3.out.goneR hg8 nSr)
        have HA8 := Lib.hid (HA3.out.goneR hg8 aA)
        have HI8 := Lib.hid (HI3.out.goneR hg8 aI)
        have HO8 := Lib.hid ho8
        obtain ⟨w9, st9, hr9, hg9, _⟩ := run_store_one (P := Tryz.prog) HRb8.out 24 5 (.slice q8 (setL PSub.jid ⟨s0, false, depth⟩ n.subs).length k8) (Tryz.sizeOf24 _) (by simp) rfl rfl
        have HB9 := Lib.hid (below_gone HB8.out hg9 HB8.out.size (Nat.le_refl _))
        have HRr9 := Lib.hid (HRr8.out.gone hg9 (by omega))
        have m0 := hr9.at 0 _ rfl
        have m1 := hr9.at 1 _ rfl
        have m2 := hr9.at 2 _ rfl
        have m3 := hr9.at 3 _ rfl
        have m4 := hr9.at 4 _ rfl
        have m5 := hr9.at 5 _ rfl
        have m6 := hr9.at 6 _ rfl
        have m7 := hr9.at 7 _ rfl
        obtain ⟨wx, stx, hrx, hgx, _⟩ := run_store_row (P := Tryz.prog) HRr9.out 27 [.string n.name, .bool n.coll, .int .u8 n.access, .int .i64 n.max, .slice qA n.affs.length kA, .slice q8 (setL PSub.jid ⟨s0, false, depth⟩ n.subs).length k8, .slice qI n.items.length kI, .string n.parent] (sizeNode w9) rfl rfl (node_one _ _ _ _ _ _ _ _ rfl rfl rfl)
        have HAx := Lib.hid ((HA8.out.gone hg9 (HA8.out.ne HRb8.out (by decide))).gone hgx (HA8.out.ne HRr8.out (by decide)))
        have HOx := Lib.hid ((HO8.out.gone hg9 (HO8.out.ne HRb8.out (by decide))).gone hgx (HO8.out.ne HRr8.out (by decide)))
        have HIx := Lib.hid ((HI8.out.gone hg9 (HI8.out.ne HRb8.out (by decide))).gone hgx (HI8.out.ne HRr8.out (by decide)))
        have HBx := Lib.hid (below_gone HB9.out hgx HB9.out.size (Nat.le_succ _))
        have u0 := hrx.at 0 _ rfl
        have u1 := hrx.at 1 _ rfl
        have u2 := hrx.at 2 _ rfl
        have u3 := hrx.at 3 _ rfl
        have u4 := hrx.at 4 _ rfl
        have u5 := hrx.at 5 _ rfl
        have u6 := hrx.at 6 _ rfl
        have u7 := hrx.at 7 _ rfl
        have ST9 := Lib.hid st9
        have STx := Lib.hid stx
        clear st9 stx hr9 hrx hg8 hg9 hgx ho8 aA aI
        go_wp2_with (first
          | (refine wpList_store_run _ rfl 24 _ _ rfl _ _ rfl rfl ST9.out ?_)
          | (refine wpList_store_run _ rfl 27 _ _ rfl _ _ rfl rfl STx.out ?_))
        refine bodyPost_ret (by simp [results, Tryz.results19, go_sem, u0, u1, u2, u3, u4, u5, u6, u7]; try rfl) rfl ?_
        exact ⟨_, by rw [HC.out], by rw [HC.out]; exact ⟨_, _, _, rfl, HAx.out.sl PAff.enc_len, HOx.out.sl PSub.enc_len, HIx.out.sl PItem.enc_len⟩, HBx.out⟩
    | false =>
      cases hl : (n.subs.length == 16) with
      | true =>
        have hl2 : ((n.subs.length : Int) == 16) = true := by rw [beq_iff_eq] at *; omega
        rw [hl] at HE
        clear hl
        have HC : Hid (subscribeN pr n who depth = (noNode, 8)) := by show _ = _; rw [HE.out]; rfl
        clear HE HF9
        go_wp2_with fail
        (with_reducible refine (refused_any 8 w6).mono ?_)
        rintro e wr ⟨vr, rfl, hvr, hBr⟩
        obtain ⟨Ar, Sr, Ir, rfl, hAr, hSr, hIr⟩ := hvr
        have HVr := Lib.hid (And.intro hAr (And.intro hSr hIr))
        have HBr := Lib.hid (Bw6.out.trans (hBr.mono Bw6.out.size))
        obtain ⟨wq, hst, hrq, hgq, hsq⟩ := run_store_row (P := Tryz.prog) (Rrw6.out.below hBr) 27 [.string noNode.name, .bool noNode.coll, .int .u8 noNode.access, .int .i64 noNode.max, Ar, Sr, Ir, .string noNode.parent] (sizeNode wr) rfl rfl (node_one _ _ _ _ _ _ _ _ hAr.one hSr.one hIr.one)
        have HGq := Lib.hid hgq
        have HST := Lib.hid hst
        have r0 := hrq.at 0 _ rfl
        have r1 := hrq.at 1 _ rfl
        have r2 := hrq.at 2 _ rfl
        have r3 := hrq.at 3 _ rfl
        have r4 := hrq.at 4 _ rfl
        have r5 := hrq.at 5 _ rfl
        have r6 := hrq.at 6 _ rfl
        have r7 := hrq.at 7 _ rfl
        clear hst hrq hgq hsq hAr hSr hIr hBr
        go_wp2_with (refine wpList_store_run _ rfl 27 _ _ rfl _ _ rfl rfl HST.out ?_)
        refine bodyPost_ret (by simp [results, Tryz.results19, go_sem, r0, r1, r2, r3, r4, r5, r6, r7]; try rfl) rfl ?_
        exact ⟨_, by rw [HC.out], by rw [HC.out]; exact ⟨Ar, Sr, Ir, rfl, HVr.out.1.empty, HVr.out.2.1.empty, HVr.out.2.2.empty⟩, below_gone HBr.out HGq.out HBr.out.size (Nat.le_succ _)⟩
      | false =>
        have hl2 : ((n.subs.length : Int) == 16) = false := by rw [beq_eq_false_iff_ne] at *; omega
        rw [hl] at HE
        clear hl
        have HC : Hid (subscribeN pr n who depth = ({ n with subs := setL PSub.jid ⟨who, false, depth⟩ n.subs }, 0)) := by show _ = _; rw [HE.out]; rfl
        clear HE
        obtain ⟨wy, sty, hry, hgy, _⟩ := run_store_row (P := Tryz.prog) HS6.out 51 [.string who, .bool false, .int .i64 0] (Tryz.sizeOf51 _) rfl rfl (by intro u hu; simp only [List.mem_cons, List.not_mem_nil, or_false] at hu; rcases hu with rfl | rfl | rfl <;> rfl)
        have By := Lib.hid (below_gone Bw6.out hgy Bw6.out.size (Nat.le_of_lt hwlt.1))
        have Rby := Lib.hid (Rbw6.out.gone hgy (Nat.ne_of_lt hwlt.1))
        have Rry := Lib.hid (Rrw6.out.gone hgy (Nat.ne_of_lt hwlt.2))
        have STy := Lib.hid sty
        obtain ⟨wz, stz, hrz, hgz, _⟩ := run_store_one (P := Tryz.prog) hry 3 2 (.int .i64 depth) (Tryz.sizeOf3 _) (by simp) rfl rfl
        have Bz := Lib.hid (below_gone By.out hgz By.out.size (Nat.le_of_lt hwlt.1))
        have Rbz := Lib.hid (Rby.out.gone hgz (Nat.ne_of_lt hwlt.1))
        have Rrz := Lib.hid (Rry.out.gone hgz (Nat.ne_of_lt hwlt.2))
        have HSz := Lib.hid hrz
        have STz := Lib.hid stz
        clear hrz hgz stz hry hgy sty
        go_upto_region 16 with (first
          | (refine wpList_store_run _ rfl 51 _ _ rfl _ _ rfl rfl STy.out ?_)
          | (refine wpList_store_run _ rfl 3 _ _ rfl _ _ rfl rfl STz.out ?_))
        have o0 := Rbz.out.at 0 _ rfl
        have o1 := Rbz.out.at 1 _ rfl
        have o2 := Rbz.out.at 2 _ rfl
        have o3 := Rbz.out.at 3 _ rfl
        have o4 := Rbz.out.at 4 _ rfl
        have o5 := Rbz.out.at 5 _ rfl
        have o6 := Rbz.out.at 6 _ rfl
        have o7 := Rbz.out.at 7 _ rfl
        have HB1 := Bz
        have HR1 := Rbz
        have HR21 := Rrz
        go_wp2_with fail
        (with_reducible refine (HOn.out wz HB1.out).mono ?_)
        rintro e w2 ⟨v2, rfl, hv2, hB2⟩
        obtain ⟨A2, S2, I2, rfl, hA2, hS2, hI2⟩ := hv2
        have HB2 := Lib.hid (HB1.out.trans (hB2.mono HB1.out.size))
        have HRb := Lib.hid (HR1.out.below hB2)
        have HRr := Lib.hid (HR21.out.below hB2)
        have hA2 := hA2.mono HB1.out.size
        have hS2 := hS2.mono HB1.out.size
        have hI2 := hI2.mono HB1.out.size
        obtain ⟨qA, kA, rfl⟩ := row_slice hA2
        obtain ⟨qS, kS, rfl⟩ := row_slice hS2
        obtain ⟨qI, kI, rfl⟩ := row_slice hI2
        have nAb := hA2.ne HRb.out (by decide)
        have nSb := hS2.ne HRb.out (by decide)
        have nIb := hI2.ne HRb.out (by decide)
        have nAr := hA2.ne HRr.out (by decide)
        have nSr := hS2.ne HRr.out (by decide)
        have nIr := hI2.ne HRr.out (by decide)
        obtain ⟨w3, hst3, hr3, hg3, hs3⟩ := run_store_row (P := Tryz.prog) HRb.out 27 [.string n.name, .bool n.coll, .int .u8 n.access, .int .i64 n.max, .slice qA n.affs.length kA, .slice qS n.subs.length kS, .slice qI n.items.length kI, .string n.parent] (sizeNode w2) rfl rfl (node_one _ _ _ _ _ _ _ _ rfl rfl rfl)
        have hb3 : w.heap.size ≤ w2.heap.size := HB2.out.size
        have HB3 := Lib.hid (below_gone HB2.out hg3 HB2.out.size (Nat.le_refl _))
        have HA3 := Lib.hid (hA2.gone hg3 nAb)
        have HS3 := Lib.hid (hS2.gone hg3 nSb)
        have HI3 := Lib.hid (hI2.gone hg3 nIb)
        have HRr3 := Lib.hid (HRr.out.gone hg3 (by omega))
        have HRb3 := Lib.hid hr3
        have HST3 := Lib.hid hst3
        have s3 := hr3.at 3 _ rfl
        have s4 := hr3.at 4 _ rfl
        have s5 := hr3.at 5 _ rfl
        have s6 := hr3.at 6 _ rfl
        have HSx := Lib.hid ((HSz.out.below hB2).gone hg3 (by omega))
        clear hst3 hr3 hg3 hs3 hA2 hS2 hI2 hB2
        have z0 := HSx.out.at 0 _ rfl
        have z1 := HSx.out.at 1 _ rfl
        have z2 := HSx.out.at 2 _ rfl
        have HSet := Lib.hid (setSub_any w.heap.size (.slice qS n.subs.length kS) n.subs ⟨who, false, depth⟩ w3 HS3.out HB3.out.size (by first | exact HF9.out rfl | exact HF9.out trivial) HD.out.subs)
        have aA := HA3.out.apart HS3.out (by decide)
        have aI := HI3.out.apart HS3.out (by decide)
        go_wp2_with (refine wpList_store_run _ rfl 27 _ _ rfl _ _ rfl rfl HST3.out ?_)
        (with_reducible refine HSet.out.mono ?_)
        rintro e w8 ⟨v8, rfl, ho8, hg8⟩
        obtain ⟨q8, k8, rfl⟩ := row_slice ho8
        have HB8 := Lib.hid (below_goneR HB3.out hg8 HS3.out HB3.out.size (Nat.le_refl _))
        have HRb8 := Lib.hid (HRb3.out.goneR hg8 nSb)
        have HRr8 := Lib.hid (HRr3.out.goneR hg8 nSr)
        have HA8 := Lib.hid (HA3.out.goneR hg8 aA)
        have HI8 := Lib.hid (HI3.out.goneR hg8 aI)
        have HO8 := Lib.hid ho8
        obtain ⟨w9, st9, hr9, hg9, _⟩ := run_store_one (P := Tryz.prog) HRb8.out 24 5 (.slice q8 (setL PSub.jid ⟨who, false, depth⟩ n.subs).length k8) (Tryz.sizeOf24 _) (by simp) rfl rfl
        have HB9 := Lib.hid (below_gone HB8.out hg9 HB8.out.size (Nat.le_refl _))
        have HRr9 := Lib.hid (HRr8.out.gone hg9 (by omega))
        have m0 := hr9.at 0 _ rfl
        have m1 := hr9.at 1 _ rfl
        have m2 := hr9.at 2 _ rfl
        have m3 := hr9.at 3 _ rfl
        have m4 := hr9.at 4 _ rfl
        have m5 := hr9.at 5 _ rfl
        have m6 := hr9.at 6 _ rfl
        have m7 := hr9.at 7 _ rfl
        obtain ⟨wx, stx, hrx, hgx, _⟩ := run_store_row (P := Tryz.prog) HRr9.out 27 [.string n.name, .bool n.coll, .int .u8 n.access, .int .i64 n.max, .slice qA n.affs.length kA, .slice q8 (setL PSub.jid ⟨who, false, depth⟩ n.subs).length k8, .slice qI n.items.length kI, .string n.parent] (sizeNode w9) rfl rfl (node_one _ _ _ _ _ _ _ _ rfl rfl rfl)
        have HAx := Lib.hid ((HA8.out.gone hg9 (HA8.out.ne HRb8.out (by decide))).gone hgx (HA8.out.ne HRr8.out (by decide)))
        have HOx := Lib.hid ((HO8.out.gone hg9 (HO8.out.ne HRb8.out (by decide))).gone hgx (HO8.out.ne HRr8.out (by decide)))
        have HIx := Lib.hid ((HI8.out.gone hg9 (HI8.out.ne HRb8.out (by decide))).gone hgx (HI8.out.ne HRr8.out (by decide)))
        have HBx := Lib.hid (below_gone HB9.out hgx HB9.out.size (Nat.le_succ _))
        have u0 := hrx.at 0 _ rfl
        have u1 := hrx.at 1 _ rfl
        have u2 := hrx.at 2 _ rfl
        have u3 := hrx.at 3 _ rfl
        have u4 := hrx.at 4 _ rfl
        have u5 := hrx.at 5 _ rfl
        have u6 := hrx.at 6 _ rfl
        have u7 := hrx.at 7 _ rfl
        have ST9 := Lib.hid st9
        have STx := Lib.hid stx
        clear st9 stx hr9 hrx hg8 hg9 hgx ho8 aA aI
        go_wp2_with (first
          | (refine wpList_store_run _ rfl 24 _ _ rfl _ _ rfl rfl ST9.out ?_)
          | (refine wpList_store_run _ rfl 27 _ _ rfl _ _ rfl rfl STx.out ?_))
        refine bodyPost_ret (by simp [results, Tryz.results19, go_sem, u0, u1, u2, u3, u4, u5, u6, u7]; try rfl) rfl ?_
        exact ⟨_, by rw [HC.out], by rw [HC.out]; exact ⟨_, _, _, rfl, HAx.out.sl PAff.enc_len, HOx.out.sl PSub.enc_len, HIx.out.sl PItem.enc_len⟩, HBx.out⟩
  | false =>
    cases hac : (n.access == 2) with
    | true =>
      rw [hac] at HE
      have HC : Hid (subscribeN pr n who depth = (noNode, 6)) := by show _ = _; rw [HE.out]; rfl
      clear HE HF9
      go_wp2_with fail
      (with_reducible refine (refused_any 6 w6).mono ?_)
      rintro e wr ⟨vr, rfl, hvr, hBr⟩
      obtain ⟨Ar, Sr, Ir, rfl, hAr, hSr, hIr⟩ := hvr
      have HVr := Lib.hid (And.intro hAr (And.intro hSr hIr))
      have HBr := Lib.hid (Bw6.out.trans (hBr.mono Bw6.out.size))
      obtain ⟨wq, hst, hrq, hgq, hsq⟩ := run_store_row (P := Tryz.prog) (Rrw6.out.below hBr) 27 [.string noNode.name, .bool noNode.coll, .int .u8 noNode.access, .int .i64 noNode.max, Ar, Sr, Ir, .string noNode.parent] (sizeNode wr) rfl rfl (node_one _ _ _ _ _ _ _ _ hAr.one hSr.one hIr.one)
      have HGq := Lib.hid hgq
      have HST := Lib.hid hst
      have r0 := hrq.at 0 _ rfl
      have r1 := hrq.at 1 _ rfl
      have r2 := hrq.at 2 _ rfl
      have r3 := hrq.at 3 _ rfl
      have r4 := hrq.at 4 _ rfl
      have r5 := hrq.at 5 _ rfl
      have r6 := hrq.at 6 _ rfl
      have r7 := hrq.at 7 _ rfl
      clear hst hrq hgq hsq hAr hSr hIr hBr
      go_wp2_with (refine wpList_store_run _ rfl 27 _ _ rfl _ _ rfl rfl HST.out ?_)
      refine bodyPost_ret (by simp [results, Tryz.results19, go_sem, r0, r1, r2, r3, r4, r5, r6, r7]; try rfl) rfl ?_
      exact ⟨_, by rw [HC.out], by rw [HC.out]; exact ⟨Ar, Sr, Ir, rfl, HVr.out.1.empty, HVr.out.2.1.empty, HVr.out.2.2.empty⟩, below_gone HBr.out HGq.out HBr.out.size (Nat.le_succ _)⟩
    | false =>
    rw [hac] at HE
    cases sb with
    | true =>
      cases s1 with
      | true =>
        have HC : Hid (subscribeN pr n who depth = (noNode, 7)) := by show _ = _; rw [HE.out]; rfl
        clear HE HF9
        go_wp2_with fail
        (with_reducible refine (refused_any 7 w6).mono ?_)
        rintro e wr ⟨vr, rfl, hvr, hBr⟩
        obtain ⟨Ar, Sr, Ir, rfl, hAr, hSr, hIr⟩ := hvr
        have HVr := Lib.hid (And.intro hAr (And.intro hSr hIr))
        have HBr := Lib.hid (Bw6.out.trans (hBr.mono Bw6.out.size))
        obtain ⟨wq, hst, hrq, hgq, hsq⟩ := run_store_row (P := Tryz.prog) (Rrw6.out.below hBr) 27 [.string noNode.name, .bool noNode.coll, .int .u8 noNode.access, .int .i64 noNode.max, Ar, Sr, Ir, .string noNode.parent] (sizeNode wr) rfl rfl (node_one _ _ _ _ _ _ _ _ hAr.one hSr.one hIr.one)
        have HGq := Lib.hid hgq
        have HST := Lib.hid hst
        have r0 := hrq.at 0 _ rfl
        have r1 := hrq.at 1 _ rfl
        have r2 := hrq.at 2 _ rfl
        have r3 := hrq.at 3 _ rfl
        have r4 := hrq.at 4 _ rfl
        have r5 := hrq.at 5 _ rfl
        have r6 := hrq.at 6 _ rfl
        have r7 := hrq.at 7 _ rfl
        clear hst hrq hgq hsq hAr hSr hIr hBr
        go_wp2_with (refine wpList_store_run _ rfl 27 _ _ rfl _ _ rfl rfl HST.out ?_)
        refine bodyPost_ret (by simp [results, Tryz.results19, go_sem, r0, r1, r2, r3, r4, r5, r6, r7]; try rfl) rfl ?_
        exact ⟨_, by rw [HC.out], by rw [HC.out]; exact ⟨Ar, Sr, Ir, rfl, HVr.out.1.empty, HVr.out.2.1.empty, HVr.out.2.2.empty⟩, below_gone HBr.out HGq.out HBr.out.size (Nat.le_succ _)⟩
      | false =>
        have HC : Hid (subscribeN pr n who depth = ({ n with subs := setL PSub.jid ⟨s0, false, depth⟩ n.subs }, 0)) := by show _ = _; rw [HE.out]; rfl
        clear HE
        obtain ⟨wz, stz, hrz, hgz, _⟩ := run_store_one (P := Tryz.prog) HS6.out 3 2 (.int .i64 depth) (Tryz.sizeOf3 _) (by simp) rfl rfl
        have Bz := Lib.hid (below_gone Bw6.out hgz Bw6.out.size (Nat.le_of_lt hwlt.1))
        have Rbz := Lib.hid (Rbw6.out.gone hgz (Nat.ne_of_lt hwlt.1))
        have Rrz := Lib.hid (Rrw6.out.gone hgz (Nat.ne_of_lt hwlt.2))
        have HSz := Lib.hid hrz
        have STz := Lib.hid stz
        clear hrz hgz stz
        go_upto_region 16 with (first
          | (refine wpList_store_run _ rfl 3 _ _ rfl _ _ rfl rfl STz.out ?_))
        have o0 := Rbz.out.at 0 _ rfl
        have o1 := Rbz.out.at 1 _ rfl
        have o2 := Rbz.out.at 2 _ rfl
        have o3 := Rbz.out.at 3 _ rfl
        have o4 := Rbz.out.at 4 _ rfl
        have o5 := Rbz.out.at 5 _ rfl
        have o6 := Rbz.out.at 6 _ rfl
        have o7 := Rbz.out.at 7 _ rfl
        have HB1 := Bz
        have HR1 := Rbz
        have HR21 := Rrz
        go_wp2_with fail
        (with_reducible refine (HOn.out wz HB1.out).mono ?_)
        rintro e w2 ⟨v2, rfl, hv2, hB2⟩
        obtain ⟨A2, S2, I2, rfl, hA2, hS2, hI2⟩ := hv2
        have HB2 := Lib.hid (HB1.out.trans (hB2.mono HB1.out.size))
        have HRb := Lib.hid (HR1.out.below hB2)
        have HRr := Lib.hid (HR21.out.below hB2)
        have hA2 := hA2.mono HB1.out.size
        have hS2 := hS2.mono HB1.out.size
        have hI2 := hI2.mono HB1.out.size
        obtain ⟨qA, kA, rfl⟩ := row_slice hA2
        obtain ⟨qS, kS, rfl⟩ := row_slice hS2
        obtain ⟨qI, kI, rfl⟩ := row_slice hI2
        have nAb := hA2.ne HRb.out (by decide)
        have nSb := hS2.ne HRb.out (by decide)
        have nIb := hI2.ne HRb.out (by decide)
        have nAr := hA2.ne HRr.out (by decide)
        have nSr := hS2.ne HRr.out (by decide)
        have nIr := hI2.ne HRr.out (by decide)
        obtain ⟨w3, hst3, hr3, hg3, hs3⟩ := run_store_row (P := Tryz.prog) HRb.out 27 [.string n.name, .bool n.coll, .int .u8 n.access, .int .i64 n.max, .slice qA n.affs.length kA, .slice qS n.subs.length kS, .slice qI n.items.length kI, .string n.parent] (sizeNode w2) rfl rfl (node_one _ _ _ _ _ _ _ _ rfl rfl rfl)
        have hb3 : w.heap.size ≤ w2.heap.size := HB2.out.size
        have HB3 := Lib.hid (below_gone HB2.out hg3 HB2.out.size (Nat.le_refl _))
        have HA3 := Lib.hid (hA2.gone hg3 nAb)
        have HS3 := Lib.hid (hS2.gone hg3 nSb)
        have HI3 := Lib.hid (hI2.gone hg3 nIb)
        have HRr3 := Lib.hid (HRr.out.gone hg3 (by omega))
        have HRb3 := Lib.hid hr3
        have HST3 := Lib.hid hst3
        have s3 := hr3.at 3 _ rfl
        have s4 := hr3.at 4 _ rfl
        have s5 := hr3.at 5 _ rfl
        have s6 := hr3.at 6 _ rfl
        have HSx := Lib.hid ((HSz.out.below hB2).gone hg3 (by omega))
        clear hst3 hr3 hg3 hs3 hA2 hS2 hI2 hB2
        have z0 := HSx.out.at 0 _ rfl
        have z1 := HSx.out.at 1 _ rfl
        have z2 := HSx.out.at 2 _ rfl
        have HSet := Lib.hid (setSub_any w.heap.size (.slice qS n.subs.length kS) n.subs ⟨s0, false, depth⟩ w3 HS3.out HB3.out.size (by first | exact HF9.out rfl | exact HF9.out trivial) HD.out.subs)
        have aA := HA3.out.apart HS3.out (by decide)
        have aI := HI3.out.apart HS3.out (by decide)
        go_wp2_with (refine wpList_store_run _ rfl 27 _ _ rfl _ _ rfl rfl HST3.out ?_)
        (with_reducible refine HSet.out.mono ?_)
        rintro e w8 ⟨v8, rfl, ho8, hg8⟩
        obtain ⟨q8, k8, rfl⟩ := row_slice ho8
        have HB8 := Lib.hid (below_goneR HB3.out hg8 HS3.out HB3.out.size (Nat.le_refl _))
        have HRb8 := Lib.hid (HRb3.out.goneR hg8 nSb)
        have HRr8 := Lib.hid (HRr3.out.goneR hg8 nSr)
        have HA8 := Lib.hid (HA3.out.goneR hg8 aA)
        have HI8 := Lib.hid (HI3.out.goneR hg8 aI)
        have HO8 := Lib.hid ho8
        obtain ⟨w9, st9, hr9, hg9, _⟩ := run_store_one (P := Tryz.prog) HRb8.out 24 5 (.slice q8 (setL PSub.jid ⟨s0, false, depth⟩ n.subs).length k8) (Tryz.sizeOf24 _) (by simp) rfl rfl
        have HB9 := Lib.hid (below_gone HB8.out hg9 HB8.out.size (Nat.le_refl _))
        have HRr9 := Lib.hid (HRr8.out.gone hg9 (by omega))
        have m0 := hr9.at 0 _ rfl
        have m1 := hr9.at 1 _ rfl
        have m2 := hr9.at 2 _ rfl
        have m3 := hr9.at 3 _ rfl
        have m4 := hr9.at 4 _ rfl
        have m5 := hr9.at 5 _ rfl
        have m6 := hr9.at 6 _ rfl
        have m7 := hr9.at 7 _ rfl
        obtain ⟨wx, stx, hrx, hgx, _⟩ := run_store_row (P := Tryz.prog) HRr9.out 27 [.string n.name, .bool n.coll, .int .u8 n.access, .int .i64 n.max, .slice qA n.affs.length kA, .slice q8 (setL PSub.jid ⟨s0, false, depth⟩ n.subs).length k8, .slice qI n.items.length kI, .string n.parent] (sizeNode w9) rfl rfl (node_one _ _ _ _ _ _ _ _ rfl rfl rfl)
        have HAx := Lib.hid ((HA8.out.gone hg9 (HA8.out.ne HRb8.out (by decide))).gone hgx (HA8.out.ne HRr8.out (by decide)))
        have HOx := Lib.hid ((HO8.out.gone hg9 (HO8.out.ne HRb8.out (by decide))).gone hgx (HO8.out.ne HRr8.out (by decide)))
        have HIx := Lib.hid ((HI8.out.gone hg9 (HI8.out.ne HRb8.out (by decide))).gone hgx (HI8.out.ne HRr8.out (by decide)))
        have HBx := Lib.hid (below_gone HB9.out hgx HB9.out.size (Nat.le_succ _))
        have u0 := hrx.at 0 _ rfl
        have u1 := hrx.at 1 _ rfl
        have u2 := hrx.at 2 _ rfl
        have u3 := hrx.at 3 _ rfl
        have u4 := hrx.at 4 _ rfl
        have u5 := hrx.at 5 _ rfl
        have u6 := hrx.at 6 _ rfl
        have u7 := hrx.at 7 _ rfl
        have ST9 := Lib.hid st9
        have STx := Lib.hid stx
        clear st9 stx hr9 hrx hg8 hg9 hgx ho8 aA aI
        go_wp2_with (first
          | (refine wpList_store_run _ rfl 24 _ _ rfl _ _ rfl rfl ST9.out ?_)
          | (refine wpList_store_run _ rfl 27 _ _ rfl _ _ rfl rfl STx.out ?_))
        refine bodyPost_ret (by simp [results, Tryz.results19, go_sem, u0, u1, u2, u3, u4, u5, u6, u7]; try rfl) rfl ?_
        exact ⟨_, by rw [HC.out], by rw [HC.out]; exact ⟨_, _, _, rfl, HAx.out.sl PAff.enc_len, HOx.out.sl PSub.enc_len, HIx.out.sl PItem.enc_len⟩, HBx.out⟩
    | false =>
      cases hl : (n.subs.length == 16) with
      | true =>
        have hl2 : ((n.subs.length : Int) == 16) = true := by rw [beq_iff_eq] at *; omega
        rw [hl] at HE
        clear hl
        have HC : Hid (subscribeN pr n who depth = (noNode, 8)) := by show _ = _; rw [HE.out]; rfl
        clear HE HF9
        go_wp2_with fail
        (with_reducible refine (refused_any 8 w6).mono ?_)
        rintro e wr ⟨vr, rfl, hvr, hBr⟩
        obtain ⟨Ar, Sr, Ir, rfl, hAr, hSr, hIr⟩ := hvr
        have HVr := Lib.hid (And.intro hAr (And.intro hSr hIr))
        have HBr := Lib.hid (Bw6.out.trans (hBr.mono Bw6.out.size))
        obtain ⟨wq, hst, hrq, hgq, hsq⟩ := run_store_row (P := Tryz.prog) (Rrw6.out.below hBr) 27 [.string noNode.name, .bool noNode.coll, .int .u8 noNode.access, .int .i64 noNode.max, Ar, Sr, Ir, .string noNode.parent] (sizeNode wr) rfl rfl (node_one _ _ _ _ _ _ _ _ hAr.one hSr.one hIr.one)
        have HGq := Lib.hid hgq
        have HST := Lib.hid hst
        have r0 := hrq.at 0 _ rfl
        have r1 := hrq.at 1 _ rfl
        have r2 := hrq.at 2 _ rfl
        have r3 := hrq.at 3 _ rfl
        have r4 := hrq.at 4 _ rfl
        have r5 := hrq.at 5 _ rfl
        have r6 := hrq.at 6 _ rfl
        have r7 := hrq.at 7 _ rfl
        clear hst hrq hgq hsq hAr hSr hIr hBr
        go_wp2_with (refine wpList_store_run _ rfl 27 _ _ rfl _ _ rfl rfl HST.out ?_)
        refine bodyPost_ret (by simp [results, Tryz.results19, go_sem, r0, r1, r2, r3, r4, r5, r6, r7]; try rfl) rfl ?_
        exact ⟨_, by rw [HC.out], by rw [HC.out]; exact ⟨Ar, Sr, Ir, rfl, HVr.out.1.empty, HVr.out.2.1.empty, HVr.out.2.2.empty⟩, below_gone HBr.out HGq.out HBr.out.size (Nat.le_succ _)⟩
      | false =>
        have hl2 : ((n.subs.length : Int) == 16) = false := by rw [beq_eq_false_iff_ne] at *; omega
        rw [hl] at HE
        clear hl
        have HC : Hid (subscribeN pr n who depth = ({ n with subs := setL PSub.jid ⟨who, (n.access == 1), depth⟩ n.subs }, 0)) := by show _ = _; rw [HE.out]; rfl
        clear HE
        obtain ⟨wy, sty, hry, hgy, _⟩ := run_store_row (P := Tryz.prog) HS6.out 51 [.string who, .bool (n.access == 1), .int .i64 0] (Tryz.sizeOf51 _) rfl rfl (by intro u hu; simp only [List.mem_cons, List.not_mem_nil, or_false] at hu; rcases hu with rfl | rfl | rfl <;> rfl)
        have By := Lib.hid (below_gone Bw6.out hgy Bw6.out.size (Nat.le_of_lt hwlt.1))
        have Rby := Lib.hid (Rbw6.out.gone hgy (Nat.ne_of_lt hwlt.1))
        have Rry := Lib.hid (Rrw6.out.gone hgy (Nat.ne_of_lt hwlt.2))
        have STy := Lib.hid sty
        obtain ⟨wz, stz, hrz, hgz, _⟩ := run_store_one (P := Tryz.prog) hry 3 2 (.int .i64 depth) (Tryz.sizeOf3 _) (by simp) rfl rfl
        have Bz := Lib.hid (below_gone By.out hgz By.out.size (Nat.le_of_lt hwlt.1))
        have Rbz := Lib.hid (Rby.out.gone hgz (Nat.ne_of_lt hwlt.1))
        have Rrz := Lib.hid (Rry.out.gone hgz (Nat.ne_of_lt hwlt.2))
        have HSz := Lib.hid hrz
        have STz := Lib.hid stz
        clear hrz hgz stz hry hgy sty
        go_upto_region 16 with (first
          | (refine wpList_store_run _ rfl 51 _ _ rfl _ _ rfl rfl STy.out ?_)
          | (refine wpList_store_run _ rfl 3 _ _ rfl _ _ rfl rfl STz.out ?_))
        have o0 := Rbz.out.at 0 _ rfl
        have o1 := Rbz.out.at 1 _ rfl
        have o2 := Rbz.out.at 2 _ rfl
        have o3 := Rbz.out.at 3 _ rfl
        have o4 := Rbz.out.at 4 _ rfl
        have o5 := Rbz.out.at 5 _ rfl
        have o6 := Rbz.out.at 6 _ rfl
        have o7 := Rbz.out.at 7 _ rfl
        have HB1 := Bz
        have HR1 := Rbz
        have HR21 := Rrz
        go_wp2_with fail
        (with_reducible refine (HOn.out wz HB1.out).mono ?_)
        rintro e w2 ⟨v2, rfl, hv2, hB2⟩
        obtain ⟨A2, S2, I2, rfl, hA2, hS2, hI2⟩ := hv2
        have HB2 := Lib.hid (HB1.out.trans (hB2.mono HB1.out.size))
        have HRb := Lib.hid (HR1.out.below hB2)
        have HRr := Lib.hid (HR21.out.below hB2)
        have hA2 := hA2.mono HB1.out.size
        have hS2 := hS2.mono HB1.out.size
        have hI2 := hI2.mono HB1.out.size
        obtain ⟨qA, kA, rfl⟩ := row_slice hA2
        obtain ⟨qS, kS, rfl⟩ := row_slice hS2
        obtain ⟨qI, kI, rfl⟩ := row_slice hI2
        have nAb := hA2.ne HRb.out (by decide)
        have nSb := hS2.ne HRb.out (by decide)
        have nIb := hI2.ne HRb.out (by decide)
        have nAr := hA2.ne HRr.out (by decide)
        have nSr := hS2.ne HRr.out (by decide)
        have nIr := hI2.ne HRr.out (by decide)
        obtain ⟨w3, hst3, hr3, hg3, hs3⟩ := run_store_row (P := Tryz.prog) HRb.out 27 [.string n.name, .bool n.coll, .int .u8 n.access, .int .i64 n.max, .slice qA n.affs.length kA, .slice qS n.subs.length kS, .slice qI n.items.length kI, .string n.parent] (sizeNode w2) rfl rfl (node_one _ _ _ _ _ _ _ _ rfl rfl rfl)
        have hb3 : w.heap.size ≤ w2.heap.size := HB2.out.size
        have HB3 := Lib.hid (below_gone HB2.out hg3 HB2.out.size (Nat.le_refl _))
        have HA3 := Lib.hid (hA2.gone hg3 nAb)
        have HS3 := Lib.hid (hS2.gone hg3 nSb)
        have HI3 := Lib.hid (hI2.gone hg3 nIb)
        have HRr3 := Lib.hid (HRr.out.gone hg3 (by omega))
        have HRb3 := Lib.hid hr3
        have HST3 := Lib.hid hst3
        have s3 := hr3.at 3 _ rfl
        have s4 := hr3.at 4 _ rfl
        have s5 := hr3.at 5 _ rfl
        have s6 := hr3.at 6 _ rfl
        have HSx := Lib.hid ((HSz.out.below hB2).gone hg3 (by omega))
        clear hst3 hr3 hg3 hs3 hA2 hS2 hI2 hB2
        have z0 := HSx.out.at 0 _ rfl
        have z1 := HSx.out.at 1 _ rfl
        have z2 := HSx.out.at 2 _ rfl
        have HSet := Lib.hid (setSub_any w.heap.size (.slice qS n.subs.length kS) n.subs ⟨who, (n.access == 1), depth⟩ w3 HS3.out HB3.out.size (by first | exact HF9.out rfl | exact HF9.out trivial) HD.out.subs)
        have aA := HA3.out.apart HS3.out (by decide)
        have aI := HI3.out.apart HS3.out (by decide)
        go_wp2_with (refine wpList_store_run _ rfl 27 _ _ rfl _ _ rfl rfl HST3.out ?_)
        (with_reducible refine HSet.out.mono ?_)
        rintro e w8 ⟨v8, rfl, ho8, hg8⟩
        obtain ⟨q8, k8, rfl⟩ := row_slice ho8
        have HB8 := Lib.hid (below_goneR HB3.out hg8 HS3.out HB3.out.size (Nat.le_refl _))
        have HRb8 := Lib.hid (HRb3.out.goneR hg8 nSb)
        have HRr8 := Lib.hid (HRr3.out.goneR hg8 nSr)
        have HA8 := Lib.hid (HA3.out.goneR hg8 aA)
        have HI8 := Lib.hid (HI3.out.goneR hg8 aI)
        have HO8 := Lib.hid ho8
        obtain ⟨w9, st9, hr9, hg9, _⟩ := run_store_one (P := Tryz.prog) HRb8.out 24 5 (.slice q8 (setL PSub.jid ⟨who, (n.access == 1), depth⟩ n.subs).length k8) (Tryz.sizeOf24 _) (by simp) rfl rfl
        have HB9 := Lib.hid (below_gone HB8.out hg9 HB8.out.size (Nat.le_refl _))
        have HRr9 := Lib.hid (HRr8.out.gone hg9 (by omega))
        have m0 := hr9.at 0 _ rfl
        have m1 := hr9.at 1 _ rfl
        have m2 := hr9.at 2 _ rfl
        have m3 := hr9.at 3 _ rfl
        have m4 := hr9.at 4 _ rfl
        have m5 := hr9.at 5 _ rfl
        have m6 := hr9.at 6 _ rfl
        have m7 := hr9.at 7 _ rfl
        obtain ⟨wx, stx, hrx, hgx, _⟩ := run_store_row (P := Tryz.prog) HRr9.out 27 [.string n.name, .bool n.coll, .int .u8 n.access, .int .i64 n.max, .slice qA n.affs.length kA, .slice q8 (setL PSub.jid ⟨who, (n.access == 1), depth⟩ n.subs).length k8, .slice qI n.items.length kI, .string n.parent] (sizeNode w9) rfl rfl (node_one _ _ _ _ _ _ _ _ rfl rfl rfl)
        have HAx := Lib.hid ((HA8.out.gone hg9 (HA8.out.ne HRb8.out (by decide))).gone hgx (HA8.out.ne HRr8.out (by decide)))
        have HOx := Lib.hid ((HO8.out.gone hg9 (HO8.out.ne HRb8.out (by decide))).gone hgx (HO8.out.ne HRr8.out (by decide)))
        have HIx := Lib.hid ((HI8.out.gone hg9 (HI8.out.ne HRb8.out (by decide))).gone hgx (HI8.out.ne HRr8.out (by decide)))
        have HBx := Lib.hid (below_gone HB9.out hgx HB9.out.size (Nat.le_succ _))
        have u0 := hrx.at 0 _ rfl
        have u1 := hrx.at 1 _ rfl
        have u2 := hrx.at 2 _ rfl
        have u3 := hrx.at 3 _ rfl
        have u4 := hrx.at 4 _ rfl
        have u5 := hrx.at 5 _ rfl
        have u6 := hrx.at 6 _ rfl
        have u7 := hrx.at 7 _ rfl
        have ST9 := Lib.hid st9
        have STx := Lib.hid stx
        clear st9 stx hr9 hrx hg8 hg9 hgx ho8 aA aI
        go_wp2_with (first
          | (refine wpList_store_run _ rfl 24 _ _ rfl _ _ rfl rfl ST9.out ?_)
          | (refine wpList_store_run _ rfl 27 _ _ rfl _ _ rfl rfl STx.out ?_))
        refine bodyPost_ret (by simp [results, Tryz.results19, go_sem, u0, u1, u2, u3, u4, u5, u6, u7]; try rfl) rfl ?_
        exact ⟨_, by rw [HC.out], by rw [HC.out]; exact ⟨_, _, _, rfl, HAx.out.sl PAff.enc_len, HOx.out.sl PSub.enc_len, HIx.out.sl PItem.enc_len⟩, HBx.out⟩
end Go.Proofs.YtpjaopcgoaannaaGreatDoor
