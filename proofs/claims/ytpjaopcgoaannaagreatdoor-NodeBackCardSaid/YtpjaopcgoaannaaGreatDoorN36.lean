/- slices.Equal of equal rows, node.Same of equal nodes. Written by gen_n36.py. -/
import Derived.Test.YtpjaopcgoaannaaGreatDoorN31
namespace Go.Proofs.YtpjaopcgoaannaaGreatDoor
open Go.RowKit Go.Lib
open Hb

set_option maxHeartbeats 4000000 in
theorem neqAff (x0 : ByteArray) (x1 : Int) (W : World) : (binOp .neq 49 (.agg #[.string x0, .int .u8 x1]) (.agg #[.string x0, .int .u8 x1])).run Tryz.prog W = .ok (.bool false) W := by
  have hS : Tryz.prog.underlying 49 = some (.struct (Tryz.prog.fieldsOf 49)) := by kernel_rfl
  have hp : Tryz.prog.stoodInHeld 49 = false := by kernel_rfl
  rw [run_neq_struct, show (10000 : Nat) = 9999 + 1 from rfl, run_equalIn_agg W 9999 49 _ _ hS hp]
  have u0 := Tryz.underlying9
  have a0 := Tryz.isAgg9
  have z0 := Tryz.sizeOf9
  have u1 := Tryz.underlying47
  have a1 := Tryz.isAgg47
  have z1 := Tryz.sizeOf47
  simp only [Program.fieldsOf, Tryz.underlying49]
  go_simp

set_option maxRecDepth 100000 in
set_option maxHeartbeats 8000000 in
theorem eqAff_any (v1 v2 : Value) (l : List PAff) (w : World) (h1 : SlE PAff.enc 2 w v1 l) (h2 : SlE PAff.enc 2 w v2 l) (hn : l.length ≤ 100000000) :
    Calls Tryz.prog 16 #[v1, v2] w fun e w' => e = .returned (.bool true) ∧ Below w.heap.size w w' := by
  obtain ⟨a1, c1, rfl⟩ := h1.form
  obtain ⟨a2, c2, rfl⟩ := h2.form
  have H1 := Lib.hid h1
  have H2 := Lib.hid h2
  clear h1 h2
  have cn : ((l.length : Int) != (l.length : Int)) = false := by simp
  go_enter Tryz.func16, Tryz.ntmps16
  go_wp2_with fail
  go_loopw [13] (fun iv W => ∃ k : Nat, k ≤ l.length ∧ iv = .int .i64 k ∧ Hid (Below w.heap.size w W)) (fun iv _ => l.length - (intOf iv).toNat)
  case atStart => exact ⟨0, Nat.zero_le _, rfl, Below.refl _ _⟩
  case round =>
    obtain ⟨k, hk, rfl, HB⟩ := hrel
    by_cases hlt : k < l.length
    · have ck : decide ((k : Int) < (l.length : Int)) = true := by rw [decide_eq_true_eq]; omega
      obtain ⟨g1, o1, e1, q1⟩ := (H1.out.below HB.out).at k hlt
      obtain ⟨g2, o2, e2, q2⟩ := (H2.out.below HB.out).at k hlt
      subst e1
      subst e2
      generalize l[k] = x at q1 q2
      obtain ⟨x0, x1⟩ := x
      have s0 := q1 0 (by decide)
      have r0 := q2 0 (by decide)
      have s1 := q1 1 (by decide)
      have r1 := q2 1 (by decide)
      rw [Nat.add_zero] at s0 r0
      change _ = some (Value.string x0) at s0
      change _ = some (Value.string x0) at r0
      change _ = some (Value.int .u8 x1) at s1
      change _ = some (Value.int .u8 x1) at r1
      have hcmp := neqAff x0 x1
      clear q1 q2
      go_wp2_with fail
      go_quiet (fail)
      go_wp2_with fail
      go_roundw
      case rel => exact ⟨k + 1, by omega, by go_num, bdrewN HB.out _⟩
      case measure => simp [intOf]; omega
    · have ck : decide ((k : Int) < (l.length : Int)) = false := by rw [decide_eq_false_iff_not]; omega
      go_wp2_with fail
      go_returns
      exact ⟨rfl, HB.out⟩

set_option maxHeartbeats 4000000 in
theorem neqSub (x0 : ByteArray) (x1 : Bool) (x2 : Int) (W : World) : (binOp .neq 51 (.agg #[.string x0, .bool x1, .int .i64 x2]) (.agg #[.string x0, .bool x1, .int .i64 x2])).run Tryz.prog W = .ok (.bool false) W := by
  have hS : Tryz.prog.underlying 51 = some (.struct (Tryz.prog.fieldsOf 51)) := by kernel_rfl
  have hp : Tryz.prog.stoodInHeld 51 = false := by kernel_rfl
  rw [run_neq_struct, show (10000 : Nat) = 9999 + 1 from rfl, run_equalIn_agg W 9999 51 _ _ hS hp]
  have u0 := Tryz.underlying9
  have a0 := Tryz.isAgg9
  have z0 := Tryz.sizeOf9
  have u1 := Tryz.underlying4
  have a1 := Tryz.isAgg4
  have z1 := Tryz.sizeOf4
  have u2 := Tryz.underlying3
  have a2 := Tryz.isAgg3
  have z2 := Tryz.sizeOf3
  simp only [Program.fieldsOf, Tryz.underlying51]
  go_simp

set_option maxRecDepth 100000 in
set_option maxHeartbeats 8000000 in
theorem eqSub_any (v1 v2 : Value) (l : List PSub) (w : World) (h1 : SlE PSub.enc 3 w v1 l) (h2 : SlE PSub.enc 3 w v2 l) (hn : l.length ≤ 100000000) :
    Calls Tryz.prog 17 #[v1, v2] w fun e w' => e = .returned (.bool true) ∧ Below w.heap.size w w' := by
  obtain ⟨a1, c1, rfl⟩ := h1.form
  obtain ⟨a2, c2, rfl⟩ := h2.form
  have H1 := Lib.hid h1
  have H2 := Lib.hid h2
  clear h1 h2
  have cn : ((l.length : Int) != (l.length : Int)) = false := by simp
  go_enter Tryz.func17, Tryz.ntmps17
  go_wp2_with fail
  go_loopw [13] (fun iv W => ∃ k : Nat, k ≤ l.length ∧ iv = .int .i64 k ∧ Hid (Below w.heap.size w W)) (fun iv _ => l.length - (intOf iv).toNat)
  case atStart => exact ⟨0, Nat.zero_le _, rfl, Below.refl _ _⟩
  case round =>
    obtain ⟨k, hk, rfl, HB⟩ := hrel
    by_cases hlt : k < l.length
    · have ck : decide ((k : Int) < (l.length : Int)) = true := by rw [decide_eq_true_eq]; omega
      obtain ⟨g1, o1, e1, q1⟩ := (H1.out.below HB.out).at k hlt
      obtain ⟨g2, o2, e2, q2⟩ := (H2.out.below HB.out).at k hlt
      subst e1
      subst e2
      generalize l[k] = x at q1 q2
      obtain ⟨x0, x1, x2⟩ := x
      have s0 := q1 0 (by decide)
      have r0 := q2 0 (by decide)
      have s1 := q1 1 (by decide)
      have r1 := q2 1 (by decide)
      have s2 := q1 2 (by decide)
      have r2 := q2 2 (by decide)
      rw [Nat.add_zero] at s0 r0
      change _ = some (Value.string x0) at s0
      change _ = some (Value.string x0) at r0
      change _ = some (Value.bool x1) at s1
      change _ = some (Value.bool x1) at r1
      change _ = some (Value.int .i64 x2) at s2
      change _ = some (Value.int .i64 x2) at r2
      have hcmp := neqSub x0 x1 x2
      clear q1 q2
      go_wp2_with fail
      go_quiet (fail)
      go_wp2_with fail
      go_roundw
      case rel => exact ⟨k + 1, by omega, by go_num, bdrewN HB.out _⟩
      case measure => simp [intOf]; omega
    · have ck : decide ((k : Int) < (l.length : Int)) = false := by rw [decide_eq_false_iff_not]; omega
      go_wp2_with fail
      go_returns
      exact ⟨rfl, HB.out⟩

set_option maxHeartbeats 4000000 in
theorem neqItem (x0 : ByteArray) (x1 : ByteArray) (x2 : ByteArray) (W : World) : (binOp .neq 53 (.agg #[.string x0, .string x1, .string x2]) (.agg #[.string x0, .string x1, .string x2])).run Tryz.prog W = .ok (.bool false) W := by
  have hS : Tryz.prog.underlying 53 = some (.struct (Tryz.prog.fieldsOf 53)) := by kernel_rfl
  have hp : Tryz.prog.stoodInHeld 53 = false := by kernel_rfl
  rw [run_neq_struct, show (10000 : Nat) = 9999 + 1 from rfl, run_equalIn_agg W 9999 53 _ _ hS hp]
  have u0 := Tryz.underlying9
  have a0 := Tryz.isAgg9
  have z0 := Tryz.sizeOf9
  simp only [Program.fieldsOf, Tryz.underlying53]
  go_simp

set_option maxRecDepth 100000 in
set_option maxHeartbeats 8000000 in
theorem eqItem_any (v1 v2 : Value) (l : List PItem) (w : World) (h1 : SlE PItem.enc 3 w v1 l) (h2 : SlE PItem.enc 3 w v2 l) (hn : l.length ≤ 100000000) :
    Calls Tryz.prog 18 #[v1, v2] w fun e w' => e = .returned (.bool true) ∧ Below w.heap.size w w' := by
  obtain ⟨a1, c1, rfl⟩ := h1.form
  obtain ⟨a2, c2, rfl⟩ := h2.form
  have H1 := Lib.hid h1
  have H2 := Lib.hid h2
  clear h1 h2
  have cn : ((l.length : Int) != (l.length : Int)) = false := by simp
  go_enter Tryz.func18, Tryz.ntmps18
  go_wp2_with fail
  go_loopw [13] (fun iv W => ∃ k : Nat, k ≤ l.length ∧ iv = .int .i64 k ∧ Hid (Below w.heap.size w W)) (fun iv _ => l.length - (intOf iv).toNat)
  case atStart => exact ⟨0, Nat.zero_le _, rfl, Below.refl _ _⟩
  case round =>
    obtain ⟨k, hk, rfl, HB⟩ := hrel
    by_cases hlt : k < l.length
    · have ck : decide ((k : Int) < (l.length : Int)) = true := by rw [decide_eq_true_eq]; omega
      obtain ⟨g1, o1, e1, q1⟩ := (H1.out.below HB.out).at k hlt
      obtain ⟨g2, o2, e2, q2⟩ := (H2.out.below HB.out).at k hlt
      subst e1
      subst e2
      generalize l[k] = x at q1 q2
      obtain ⟨x0, x1, x2⟩ := x
      have s0 := q1 0 (by decide)
      have r0 := q2 0 (by decide)
      have s1 := q1 1 (by decide)
      have r1 := q2 1 (by decide)
      have s2 := q1 2 (by decide)
      have r2 := q2 2 (by decide)
      rw [Nat.add_zero] at s0 r0
      change _ = some (Value.string x0) at s0
      change _ = some (Value.string x0) at r0
      change _ = some (Value.string x1) at s1
      change _ = some (Value.string x1) at r1
      change _ = some (Value.string x2) at s2
      change _ = some (Value.string x2) at r2
      have hcmp := neqItem x0 x1 x2
      clear q1 q2
      go_wp2_with fail
      go_quiet (fail)
      go_wp2_with fail
      go_roundw
      case rel => exact ⟨k + 1, by omega, by go_num, bdrewN HB.out _⟩
      case measure => simp [intOf]; omega
    · have ck : decide ((k : Int) < (l.length : Int)) = false := by rw [decide_eq_false_iff_not]; omega
      go_wp2_with fail
      go_returns
      exact ⟨rfl, HB.out⟩

set_option maxRecDepth 100000 in
set_option maxHeartbeats 8000000 in
theorem same_any (v1 v2 : Value) (n : PNode) (w : World) (h1 : NodeV w v1 n) (h2 : NodeV w v2 n) (hbd : n.affs.length ≤ 1000 ∧ n.subs.length ≤ 1000 ∧ n.items.length ≤ 1000) :
    Calls Tryz.prog 7 #[v1, v2] w fun e w' => e = .returned (.bool true) ∧ Below w.heap.size w w' := by
  obtain ⟨A1, S1, I1, rfl, hA1, hS1, hI1⟩ := h1
  obtain ⟨A2, S2, I2, rfl, hA2, hS2, hI2⟩ := h2
  obtain ⟨a1, k1, rfl⟩ := hA1.form
  obtain ⟨a2, k2, rfl⟩ := hS1.form
  obtain ⟨a3, k3, rfl⟩ := hI1.form
  obtain ⟨b1, l1, rfl⟩ := hA2.form
  obtain ⟨b2, l2, rfl⟩ := hS2.form
  obtain ⟨b3, l3, rfl⟩ := hI2.form
  obtain ⟨W0, hW0, hB0, hr1, hr2, hs⟩ := two w 27 27 [.string n.name, .bool n.coll, .int .u8 n.access, .int .i64 n.max, .slice a1 n.affs.length k1, .slice a2 n.subs.length k2, .slice a3 n.items.length k3, .string n.parent] [.string n.name, .bool n.coll, .int .u8 n.access, .int .i64 n.max, .slice b1 n.affs.length l1, .slice b2 n.subs.length l2, .slice b3 n.items.length l3, .string n.parent]
  have HE1 := Lib.hid (fun W (hW : Below w.heap.size w W) => eqAff_any _ _ n.affs W (hA1.below hW) (hA2.below hW) (by have := hbd.1; omega))
  have HE2 := Lib.hid (fun W (hW : Below w.heap.size w W) => eqSub_any _ _ n.subs W (hS1.below hW) (hS2.below hW) (by have := hbd.2.1; omega))
  have HE3 := Lib.hid (fun W (hW : Below w.heap.size w W) => eqItem_any _ _ n.items W (hI1.below hW) (hI2.below hW) (by have := hbd.2.2; omega))
  have HW := Lib.hid hW0
  have HB := Lib.hid hB0
  have HR1 := Lib.hid hr1
  have HR2 := Lib.hid hr2
  have c0 := hr1.at 0 _ rfl
  have c1 := hr1.at 1 _ rfl
  have c2 := hr1.at 2 _ rfl
  have c3 := hr1.at 3 _ rfl
  have c4 := hr1.at 4 _ rfl
  have c5 := hr1.at 5 _ rfl
  have c6 := hr1.at 6 _ rfl
  have c7 := hr1.at 7 _ rfl
  have d0 := hr2.at 0 _ rfl
  have d1 := hr2.at 1 _ rfl
  have d2 := hr2.at 2 _ rfl
  have d3 := hr2.at 3 _ rfl
  have d4 := hr2.at 4 _ rfl
  have d5 := hr2.at 5 _ rfl
  have d6 := hr2.at 6 _ rfl
  have d7 := hr2.at 7 _ rfl
  clear hW0 hB0 hr1 hr2 hs hA1 hA2 hS1 hS2 hI1 hI2 hbd
  go_enter Tryz.func7, Tryz.ntmps7
  go_upto_region 1 with fail
  rw [HW.out]
  clear HW
  go_wp2_with fail
  (with_reducible refine (HE1.out _ HB.out).mono ?_)
  rintro e w1 ⟨rfl, hB1⟩
  have HB1 := Lib.hid (HB.out.trans (hB1.mono HB.out.size))
  have HRa := Lib.hid (HR1.out.below hB1)
  have HRb := Lib.hid (HR2.out.below hB1)
  have p0 := HRa.out.at 0 _ rfl
  have p1 := HRa.out.at 1 _ rfl
  have p2 := HRa.out.at 2 _ rfl
  have p3 := HRa.out.at 3 _ rfl
  have p4 := HRa.out.at 4 _ rfl
  have p5 := HRa.out.at 5 _ rfl
  have p6 := HRa.out.at 6 _ rfl
  have p7 := HRa.out.at 7 _ rfl
  have q0 := HRb.out.at 0 _ rfl
  have q1 := HRb.out.at 1 _ rfl
  have q2 := HRb.out.at 2 _ rfl
  have q3 := HRb.out.at 3 _ rfl
  have q4 := HRb.out.at 4 _ rfl
  have q5 := HRb.out.at 5 _ rfl
  have q6 := HRb.out.at 6 _ rfl
  have q7 := HRb.out.at 7 _ rfl
  clear hB1
  go_wp2_with fail
  (with_reducible refine (HE2.out _ HB1.out).mono ?_)
  rintro e w2 ⟨rfl, hB2⟩
  have HB2 := Lib.hid (HB1.out.trans (hB2.mono HB1.out.size))
  have HRc := Lib.hid (HRa.out.below hB2)
  have HRd := Lib.hid (HRb.out.below hB2)
  have x0 := HRc.out.at 0 _ rfl
  have x1 := HRc.out.at 1 _ rfl
  have x2 := HRc.out.at 2 _ rfl
  have x3 := HRc.out.at 3 _ rfl
  have x4 := HRc.out.at 4 _ rfl
  have x5 := HRc.out.at 5 _ rfl
  have x6 := HRc.out.at 6 _ rfl
  have x7 := HRc.out.at 7 _ rfl
  have y0 := HRd.out.at 0 _ rfl
  have y1 := HRd.out.at 1 _ rfl
  have y2 := HRd.out.at 2 _ rfl
  have y3 := HRd.out.at 3 _ rfl
  have y4 := HRd.out.at 4 _ rfl
  have y5 := HRd.out.at 5 _ rfl
  have y6 := HRd.out.at 6 _ rfl
  have y7 := HRd.out.at 7 _ rfl
  clear hB2
  go_wp2_with fail
  (with_reducible refine (HE3.out _ HB2.out).mono ?_)
  rintro e w3 ⟨rfl, hB3⟩
  have HB3 := Lib.hid (HB2.out.trans (hB3.mono HB2.out.size))
  clear hB3
  go_wp2_with fail
  go_returns
  exact ⟨rfl, HB3.out⟩
end Go.Proofs.YtpjaopcgoaannaaGreatDoor
