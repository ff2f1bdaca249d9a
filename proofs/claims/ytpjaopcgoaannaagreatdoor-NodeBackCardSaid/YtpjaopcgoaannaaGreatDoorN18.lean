/- node.owner, node.publisher, node.Reads. Written by gen_n18.py. -/
import Derived.Test.YtpjaopcgoaannaaGreatDoorN16
namespace Go.Proofs.YtpjaopcgoaannaaGreatDoor
open Go.RowKit Go.Lib
open Hb

set_option maxRecDepth 100000 in
set_option maxHeartbeats 4000000 in
theorem reads_any (v : Value) (n : PNode) (who : ByteArray) (w : World) (hv : NodeV w v n) (hbd : Bd n) :
    Calls Tryz.prog 21 #[v, .string who] w fun e w' => e = .returned (.bool (readsN n who)) ∧ Below w.heap.size w w' := by
  have hv0 := hv
  obtain ⟨A, S, I, rfl, hA, hS, hI⟩ := hv
  obtain ⟨aA, cA, rfl⟩ := hA.form
  obtain ⟨aS, cS, rfl⟩ := hS.form
  obtain ⟨aI, cI, rfl⟩ := hI.form
  obtain ⟨W0, hW0, hB0, hr1, hs⟩ := one w 27 [.string n.name, .bool n.coll, .int .u8 n.access, .int .i64 n.max, .slice aA n.affs.length cA, .slice aS n.subs.length cS, .slice aI n.items.length cI, .string n.parent]
  have HRo : Hid (Calls Tryz.prog 22 #[.agg #[.string n.name, .bool n.coll, .int .u8 n.access, .int .i64 n.max, .slice aA n.affs.length cA, .slice aS n.subs.length cS, .slice aI n.items.length cI, .string n.parent], .string who] W0 fun e w' => e = .returned (.int .u8 (roleN n who)) ∧ Below W0.heap.size W0 w') := role_any _ n who W0 (hv0.below hB0) (by have := hbd.affs; omega)
  have HSu : Hid (∀ W, Below w.heap.size w W → Calls Tryz.prog 20 #[.agg #[.string n.name, .bool n.coll, .int .u8 n.access, .int .i64 n.max, .slice aA n.affs.length cA, .slice aS n.subs.length cS, .slice aI n.items.length cI, .string n.parent], .string who] W fun e w' => e = .returned (.tuple #[.agg #[.string (subN n who).1.jid, .bool (subN n who).1.pending, .int .i64 (subN n who).1.depth], .bool (subN n who).2]) ∧ Below W.heap.size W w') := fun W hW => sub_any _ n who W (hv0.below hW) (by have := hbd.subs; omega)
  have HN : Hid (readsN n who = if roleN n who == 1 then false else if 2 < roleN n who then true else n.access == 0 || n.access == 1 && (subN n who).2 && !(subN n who).1.pending) := rfl
  have c0 := hr1.at 0 _ rfl
  have c1 := hr1.at 1 _ rfl
  have c2 := hr1.at 2 _ rfl
  have c3 := hr1.at 3 _ rfl
  have c4 := hr1.at 4 _ rfl
  have c5 := hr1.at 5 _ rfl
  have c6 := hr1.at 6 _ rfl
  have c7 := hr1.at 7 _ rfl
  have HW := Lib.hid hW0
  have HB := Lib.hid hB0
  have HR := Lib.hid hr1
  clear hW0 hB0 hr1 hs hv0 hA hS hI hbd
  generalize roleN n who = rl at *
  generalize (subN n who).1.jid = s0 at *
  generalize (subN n who).1.pending = s1 at *
  generalize (subN n who).1.depth = s2 at *
  generalize (subN n who).2 = sb at *
  go_enter Tryz.func21, Tryz.ntmps21
  go_upto_region 1 with fail
  rw [HW.out]
  clear HW
  generalize n.name = f0 at *
  generalize n.coll = f1 at *
  generalize n.access = f2 at *
  generalize n.max = f3 at *
  generalize n.parent = f7 at *
  go_wp2_with fail
  (with_reducible refine HRo.out.mono ?_)
  rintro e w1 ⟨rfl, hB1⟩
  have hB01 := HB.out.trans (hB1.mono HB.out.size)
  have HR1 := Lib.hid (HR.out.below hB1)
  have d0 := HR1.out.at 0 _ rfl
  have d1 := HR1.out.at 1 _ rfl
  have d2 := HR1.out.at 2 _ rfl
  have d3 := HR1.out.at 3 _ rfl
  have d4 := HR1.out.at 4 _ rfl
  have d5 := HR1.out.at 5 _ rfl
  have d6 := HR1.out.at 6 _ rfl
  have d7 := HR1.out.at 7 _ rfl
  by_cases h1 : rl = 1
  · subst h1
    go_wp2_with fail
    go_returns
    exact ⟨by rw [HN.out]; rfl, hB01⟩
  have e1 : (rl == 1) = false := beq_eq_false_iff_ne.2 h1
  by_cases h2 : 2 < rl
  · have e2 : decide (2 < rl) = true := decide_eq_true h2
    have HN2 : Hid (readsN n who = true) := by show _ = _; rw [HN.out, e1, if_pos h2]; rfl
    clear h1 HN
    go_wp2_with fail
    go_returns
    exact ⟨by rw [HN2.out]; rfl, hB01⟩
  have e2 : decide (2 < rl) = false := decide_eq_false h2
  have HN2 : Hid (readsN n who = (f2 == 0 || f2 == 1 && sb && !s1)) := by show _ = _; rw [HN.out, e1, if_neg h2]; rfl
  have HSu1 := Lib.hid (HSu.out w1 hB01)
  clear h1 h2 HN HSu
  by_cases a0 : f2 = 0
  · subst a0
    go_upto_region 7 with (first | (go_at_call 20; (with_reducible refine HSu1.out.mono ?_); rintro e w2 ⟨rfl, hB2⟩))
    have HB2 := Lib.hid (hB01.trans (hB2.mono hB01.size))
    have HR2 := HR1.out.below hB2
    have g2 := Lib.cell?_alloc_some (.cells #[.string s0, .bool s1, .int .i64 s2] 51) (HR2.at 2 _ rfl)
    go_wp2_with fail
    go_returns
    exact ⟨by rw [HN2.out]; rfl, HB2.out.alloc HB2.out.size _⟩
  have z0 : (f2 == 0) = false := beq_eq_false_iff_ne.2 a0
  by_cases a1 : f2 = 1
  · subst a1
    go_upto_region 7 with (first | (go_at_call 20; (with_reducible refine HSu1.out.mono ?_); rintro e w2 ⟨rfl, hB2⟩))
    have HB2 := Lib.hid (hB01.trans (hB2.mono hB01.size))
    have HR2 := HR1.out.below hB2
    have g2 := Lib.cell?_alloc_some (.cells #[.string s0, .bool s1, .int .i64 s2] 51) (HR2.at 2 _ rfl)
    cases sb with
    | false =>
      go_wp2_with fail
      go_returns
      exact ⟨by rw [HN2.out]; rfl, HB2.out.alloc HB2.out.size _⟩
    | true =>
      go_wp2_with fail
      go_returns
      exact ⟨by rw [HN2.out]; simp, HB2.out.alloc HB2.out.size _⟩
  · have z1 : (f2 == 1) = false := beq_eq_false_iff_ne.2 a1
    clear a0 a1
    go_upto_region 7 with (first | (go_at_call 20; (with_reducible refine HSu1.out.mono ?_); rintro e w2 ⟨rfl, hB2⟩))
    have HB2 := Lib.hid (hB01.trans (hB2.mono hB01.size))
    have HR2 := HR1.out.below hB2
    have g2 := Lib.cell?_alloc_some (.cells #[.string s0, .bool s1, .int .i64 s2] 51) (HR2.at 2 _ rfl)
    go_wp2_with fail
    go_returns
    exact ⟨by rw [HN2.out, z0, z1]; rfl, HB2.out.alloc HB2.out.size _⟩
end Go.Proofs.YtpjaopcgoaannaaGreatDoor
