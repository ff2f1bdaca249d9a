/- NodeBack: the walk. Written by gen_b10.py. -/
import Derived.Test.YtpjaopcgoaannaaGreatDoorB9
import Derived.Test.YtpjaopcgoaannaaGreatDoorB5
import Derived.Test.YtpjaopcgoaannaaGreatDoorN23
import Derived.Test.YtpjaopcgoaannaaGreatDoorN32
import Derived.Test.YtpjaopcgoaannaaGreatDoorN36
import Derived.Test.YtpjaopcgoaannaaGreatDoorN40
namespace Go.Proofs.YtpjaopcgoaannaaGreatDoor
open Go.RowKit Go.Lib
open Hb

theorem encL_len {n : PNode} (h : RightP pr n) (hs : Sizes n) : (encL n).length ≤ 500000 := by
  have h1 := flat_le (g := affL) (c := 2006) n.affs (fun a ha => affL_le (hs.aff a ha))
  have h2 := flat_le (g := subL) (c := 3009) n.subs (fun a ha => subL_le (hs.sub a ha))
  have h3 := flat_le (g := itemL) (c := 3009) n.items (fun a ha => itemL_le (hs.item a ha))
  have hh := h.head
  unfold headN at hh
  simp only [Bool.and_eq_true, decide_eq_true_eq] at hh
  have hmx : n.max ≤ 8 := by have := hh.1.2; split at this <;> omega
  have i1 := h.affLen
  have i2 := h.subLen
  have i3 : n.items.length ≤ 8 := by have := h.most; omega
  have w1 := wordL_len hs.name
  have w2 := wordL_len hs.parent
  have w3 : (wordL [if n.coll then 99 else 108]).length ≤ 1003 := wordL_len (show 1 < 1000 by decide)
  have n1 := numL_len (n := n.access.toNat)
  have n2 := numL_len (n := n.max.toNat)
  have n3 := numL_len (n := n.affs.length)
  have n4 := numL_len (n := n.subs.length)
  have n5 := numL_len (n := n.items.length)
  have m1 : 2006 * n.affs.length ≤ 2006 * 16 := Nat.mul_le_mul_left _ i1
  have m2 : 3009 * n.subs.length ≤ 3009 * 16 := Nat.mul_le_mul_left _ i2
  have m3 : 3009 * n.items.length ≤ 3009 * 8 := Nat.mul_le_mul_left _ i3
  unfold encL
  simp only [List.length_append, List.length_nil]
  omega

set_option maxRecDepth 100000 in
set_option maxHeartbeats 16000000 in
theorem nodeBack_walk (w : World) (v : Value) (n : PNode) (hv : NodeV w v n) (hn : SmN n) (s : ByteArray) (hs : s.size ≤ 140737488351232) (hT : Tab w) :
    Calls Tryz.prog 3 #[v, .string s] w fun e w' => e = .returned (.bool true) ∧ Below w.heap.size w w' := by
  have hv0 := hv
  obtain ⟨A, S, I, rfl, hA, hS, hI⟩ := hv
  obtain ⟨aA, cA, rfl⟩ := hA.form
  obtain ⟨aS, cS, rfl⟩ := hS.form
  obtain ⟨aI, cI, rfl⟩ := hI.form
  obtain ⟨W0, hW0, hB0, hr1, hs1⟩ := one w 27 [.string n.name, .bool n.coll, .int .u8 n.access, .int .i64 n.max, .slice aA n.affs.length cA, .slice aS n.subs.length cS, .slice aI n.items.length cI, .string n.parent]
  have hfew := few_any _ n W0 (hv0.below hB0)
  have hbf : Bd (fewN n) := hn.few
  have hacf : 0 ≤ (fewN n).access := hn.acc
  generalize fewN n = f at hfew hbf hacf
  have HFw := Lib.hid hfew
  have HD := Lib.hid hbf
  have HAC := Lib.hid hacf
  have HW := Lib.hid hW0
  have HB := Lib.hid hB0
  have HR := Lib.hid hr1
  have HG := Lib.hid hT.lt
  have HT := Lib.hid hT
  have HLV := Lib.hid live_any
  have HSS : Hid (s.size ≤ 9223372036854775806) := Nat.le_trans hs (by decide)
  have c0 := hr1.at 0 _ rfl
  have c1 := hr1.at 1 _ rfl
  have c2 := hr1.at 2 _ rfl
  have c3 := hr1.at 3 _ rfl
  have c4 := hr1.at 4 _ rfl
  have c5 := hr1.at 5 _ rfl
  have c6 := hr1.at 6 _ rfl
  have c7 := hr1.at 7 _ rfl
  clear hW0 hB0 hr1 hs1 hA hS hI hv0 hn hfew hbf hacf hT hs
  go_enter Tryz.func3, Tryz.ntmps3
  go_upto_region 1 with fail
  rw [HW.out]
  clear HW
  go_wp2_with fail
  (with_reducible refine HFw.out.mono ?_)
  rintro e w1 ⟨v1, rfl, hv1, hB1⟩
  have hv1' := hv1
  obtain ⟨A1, S1, I1, rfl, hA1, hS1, hI1⟩ := hv1
  obtain ⟨a1, k1, rfl⟩ := hA1.form
  obtain ⟨a2, k2, rfl⟩ := hS1.form
  obtain ⟨a3, k3, rfl⟩ := hI1.form
  have hR1 := HR.out.below hB1
  obtain ⟨w2, st2, hr2, hg2, _⟩ := run_store_row (P := Tryz.prog) hR1 27 [.string f.name, .bool f.coll, .int .u8 f.access, .int .i64 f.max, .slice a1 f.affs.length k1, .slice a2 f.subs.length k2, .slice a3 f.items.length k3, .string f.parent] (sizeNode w1) rfl rfl (node_one _ _ _ _ _ _ _ _ rfl rfl rfl)
  have HV2 := Lib.hid (hv1'.goneN hR1 hg2)
  have HB2 := Lib.hid (below_gone (HB.out.trans (hB1.mono HB.out.size)) hg2 (Nat.le_trans HB.out.size hB1.size) (Nat.le_refl _))
  have HR2 := Lib.hid hr2
  have HST2 := Lib.hid st2
  have hen := encode_any _ f w2 HV2.out HD.out HAC.out (HT.out.below HB2.out HG.out)
  have p0 := HR2.out.at 0 _ rfl
  have p1 := HR2.out.at 1 _ rfl
  have p2 := HR2.out.at 2 _ rfl
  have p3 := HR2.out.at 3 _ rfl
  have p4 := HR2.out.at 4 _ rfl
  have p5 := HR2.out.at 5 _ rfl
  have p6 := HR2.out.at 6 _ rfl
  have p7 := HR2.out.at 7 _ rfl
  clear st2 hr2 hg2 hR1 hv1' hA1 hS1 hI1 hB1 HFw
  cases hrf : rightN pr f with
  | false =>
    rw [hrf, if_neg (by decide)] at hen
    have HEn := Lib.hid hen
    clear hen hrf
    go_wp2_with (refine wpList_store_run _ rfl 27 _ _ rfl _ _ rfl rfl HST2.out ?_)
    (with_reducible refine HEn.out.mono ?_)
    rintro e w3 ⟨rfl, hb3⟩
    have HB3 := Lib.hid (HB2.out.trans (hb3.mono HB2.out.size))
    clear hb3
    go_upto_region 7 with fail
    have HDs := Lib.hid (decode_any s w3 HSS.out)
    cases hds : decR pr (bl s) with
    | none =>
      have hdq : Calls Tryz.prog 6 #[.string s] w3 fun e w' => ∃ v, e = .returned (.tuple #[v, .int .i64 3]) ∧ NodeV w' v noNode ∧ Bd noNode ∧ 0 ≤ noNode.access ∧ Below w3.heap.size w3 w' := by
        have h := HDs.out
        rw [hds] at h
        exact h
      have HDq := Lib.hid hdq
      clear hdq hds HDs
      go_wp2_with fail
      (with_reducible refine HDq.out.mono ?_)
      rintro e y1 ⟨v1, rfl, hv1, _, _, hb1⟩
      obtain ⟨A1, S1, I1, rfl, hA1, hS1, hI1⟩ := hv1
      obtain ⟨b1, l1, rfl⟩ := hA1.form
      obtain ⟨b2, l2, rfl⟩ := hS1.form
      obtain ⟨b3, l3, rfl⟩ := hI1.form
      obtain ⟨y2, hy2, hb2, hr2, hs2⟩ := one y1 27 [.string noNode.name, .bool noNode.coll, .int .u8 noNode.access, .int .i64 noNode.max, .slice b1 noNode.affs.length l1, .slice b2 noNode.subs.length l2, .slice b3 noNode.items.length l3, .string noNode.parent]
      have hb12 := hb1.trans (hb2.mono hb1.size)
      have HBy := Lib.hid (HB3.out.trans (hb12.mono HB3.out.size))
      have HRy := Lib.hid hr2
      have HY2 := Lib.hid hy2
      have f0 : y2.cell? ⟨y1.heap.size, 0, none⟩ = some (.string ⟨#[]⟩) := hr2.at 0 _ rfl
      clear hy2 hb2 hr2 hs2 hb12 hb1 hA1 hS1 hI1
      go_upto_region 8 with fail
      rw [HY2.out]
      clear HY2
      go_wp2_with fail
      (with_reducible refine (HLV.out y2).mono ?_)
      rintro e z9 ⟨rfl, hB9⟩
      have HB9 := Lib.hid (HBy.out.trans (hB9.mono HBy.out.size))
      have g0 := (hB9.cell (p := ⟨y1.heap.size, 0, none⟩) HRy.out.lt).trans f0
      clear hB9
      go_wp2_with fail
      go_returns
      exact ⟨rfl, HB9.out⟩
    | some m =>
      obtain ⟨hel, hrm⟩ := enc_dec hds
      have hdq : Calls Tryz.prog 6 #[.string s] w3 fun e w' => ∃ v, e = .returned (.tuple #[v, .int .i64 0]) ∧ NodeV w' v m ∧ Bd m ∧ 0 ≤ m.access ∧ Below w3.heap.size w3 w' := by
        have h := HDs.out
        rw [hds] at h
        exact h
      have HDq := Lib.hid hdq
      have HEL : Hid (bs (encL m) = s) := by show _ = _; rw [hel, bs_bl]
      have HRM := Lib.hid hrm
      clear hdq hds HDs hel hrm
      go_wp2_with fail
      (with_reducible refine HDq.out.mono ?_)
      rintro e y1 ⟨v1, rfl, hv1, hbd, hac, hb1⟩
      obtain ⟨A1, S1, I1, rfl, hA1, hS1, hI1⟩ := hv1
      obtain ⟨b1, l1, rfl⟩ := hA1.form
      obtain ⟨b2, l2, rfl⟩ := hS1.form
      obtain ⟨b3, l3, rfl⟩ := hI1.form
      obtain ⟨y2, hy2, hb2, hr2, hs2⟩ := one y1 27 [.string m.name, .bool m.coll, .int .u8 m.access, .int .i64 m.max, .slice b1 m.affs.length l1, .slice b2 m.subs.length l2, .slice b3 m.items.length l3, .string m.parent]
      have hb12 := hb1.trans (hb2.mono hb1.size)
      have HBy := Lib.hid (HB3.out.trans (hb12.mono HB3.out.size))
      have HRy := Lib.hid hr2
      have HY2 := Lib.hid hy2
      have HVy : Hid (NodeV y2 (.agg #[.string m.name, .bool m.coll, .int .u8 m.access, .int .i64 m.max, .slice b1 m.affs.length l1, .slice b2 m.subs.length l2, .slice b3 m.items.length l3, .string m.parent]) m) := NodeV.below ⟨_, _, _, rfl, hA1, hS1, hI1⟩ hb2
      have hen := encode_any _ m y2 HVy.out hbd hac (HT.out.below HBy.out HG.out)
      rw [HRM.out, if_pos rfl, HEL.out] at hen
      have HEn := Lib.hid hen
      have HRi := Lib.hid (fun W (hW : Below y2.heap.size y2 W) => right_any _ m W (HVy.out.below hW) hbd)
      clear hy2 hb2 hr2 hs2 hb12 hb1 hA1 hS1 hI1 hen hac
      go_upto_region 8 with fail
      rw [HY2.out]
      clear HY2
      have c0 := HRy.out.at 0 _ rfl
      have c1 := HRy.out.at 1 _ rfl
      have c2 := HRy.out.at 2 _ rfl
      have c3 := HRy.out.at 3 _ rfl
      have c4 := HRy.out.at 4 _ rfl
      have c5 := HRy.out.at 5 _ rfl
      have c6 := HRy.out.at 6 _ rfl
      have c7 := HRy.out.at 7 _ rfl
      go_wp2_with fail
      (with_reducible refine HEn.out.mono ?_)
      rintro e y3 ⟨rfl, hb3⟩
      have HBz := Lib.hid (HBy.out.trans (hb3.mono HBy.out.size))
      have HB23 := Lib.hid hb3
      clear hb3
      go_wp2_with fail
      (with_reducible refine (HLV.out y3).mono ?_)
      rintro e z9 ⟨rfl, hB9⟩
      have HB9 := Lib.hid (HBz.out.trans (hB9.mono HBz.out.size))
      have HB29 := Lib.hid (HB23.out.trans (hB9.mono HB23.out.size))
      have hri := HRi.out z9 HB29.out
      rw [HRM.out] at hri
      have HRi9 := Lib.hid hri
      have d0 := (HRy.out.below HB29.out).at 0 _ rfl
      have d1 := (HRy.out.below HB29.out).at 1 _ rfl
      have d2 := (HRy.out.below HB29.out).at 2 _ rfl
      have d3 := (HRy.out.below HB29.out).at 3 _ rfl
      have d4 := (HRy.out.below HB29.out).at 4 _ rfl
      have d5 := (HRy.out.below HB29.out).at 5 _ rfl
      have d6 := (HRy.out.below HB29.out).at 6 _ rfl
      have d7 := (HRy.out.below HB29.out).at 7 _ rfl
      have hss : (s.toList == s.toList) = true := by simp
      clear hB9 hri
      go_wp2_with fail
      (with_reducible refine HRi9.out.mono ?_)
      rintro e z10 ⟨rfl, hb10⟩
      have HBe := Lib.hid (HB9.out.trans (hb10.mono HB9.out.size))
      clear hb10
      go_wp2_with fail
      go_returns
      exact ⟨rfl, HBe.out⟩
  | true =>
    have hR := (right_iff pr f).1 hrf
    have hde := dec_enc hR (sizes_of hR HAC.out)
    have hfit : (bs (encL f)).size ≤ 9223372036854775806 := by rw [size_bl, bl_bs]; have := encL_len hR (sizes_of hR HAC.out); omega
    rw [hrf, if_pos rfl] at hen
    have HEn := Lib.hid hen
    have hdc : ∀ W, Calls Tryz.prog 6 #[.string (bs (encL f))] W fun e w' => ∃ v, e = .returned (.tuple #[v, .int .i64 0]) ∧ NodeV w' v f ∧ Bd f ∧ 0 ≤ f.access ∧ Below W.heap.size W w' := by
      intro W
      have h := decode_any (bs (encL f)) W hfit
      rw [bl_bs, hde] at h
      exact h
    have HDc := Lib.hid hdc
    clear hen hrf hde hfit hdc hR
    generalize bs (encL f) = tx at *
    go_wp2_with (refine wpList_store_run _ rfl 27 _ _ rfl _ _ rfl rfl HST2.out ?_)
    (with_reducible refine HEn.out.mono ?_)
    rintro e w3 ⟨rfl, hb3⟩
    have HB3 := Lib.hid (HB2.out.trans (hb3.mono HB2.out.size))
    have HR3 := Lib.hid (HR2.out.below hb3)
    have HV3 := Lib.hid (HV2.out.below hb3)
    clear hb3
    go_wp2_with fail
    (with_reducible refine (HDc.out _).mono ?_)
    rintro e w4 ⟨v4, rfl, hv4, _, _, hb4⟩
    obtain ⟨A4, S4, I4, rfl, hA4, hS4, hI4⟩ := hv4
    obtain ⟨b1, l1, rfl⟩ := hA4.form
    obtain ⟨b2, l2, rfl⟩ := hS4.form
    obtain ⟨b3, l3, rfl⟩ := hI4.form
    obtain ⟨w5, hw5, hb5, hr5, hs5⟩ := one w4 27 [.string f.name, .bool f.coll, .int .u8 f.access, .int .i64 f.max, .slice b1 f.affs.length l1, .slice b2 f.subs.length l2, .slice b3 f.items.length l3, .string f.parent]
    have hb35 := hb4.trans (hb5.mono hb4.size)
    have HB5 := Lib.hid (HB3.out.trans (hb35.mono HB3.out.size))
    have HR5 := Lib.hid hr5
    have HN5 := Lib.hid (HR3.out.below hb35)
    have hv5 : NodeV w5 (.agg #[.string f.name, .bool f.coll, .int .u8 f.access, .int .i64 f.max, .slice b1 f.affs.length l1, .slice b2 f.subs.length l2, .slice b3 f.items.length l3, .string f.parent]) f := NodeV.below ⟨_, _, _, rfl, hA4, hS4, hI4⟩ hb5
    have HSa := Lib.hid (same_any _ _ f w5 hv5 (HV3.out.below hb35) ⟨HD.out.affs, HD.out.subs, HD.out.items⟩)
    have HW5 := Lib.hid hw5
    clear hw5 hb5 hr5 hs5 hb35 hb4 hv5 hA4 hS4 hI4
    have q0 := HR5.out.at 0 _ rfl
    have q1 := HR5.out.at 1 _ rfl
    have q2 := HR5.out.at 2 _ rfl
    have q3 := HR5.out.at 3 _ rfl
    have q4 := HR5.out.at 4 _ rfl
    have q5 := HR5.out.at 5 _ rfl
    have q6 := HR5.out.at 6 _ rfl
    have q7 := HR5.out.at 7 _ rfl
    have r0 := HN5.out.at 0 _ rfl
    have r1 := HN5.out.at 1 _ rfl
    have r2 := HN5.out.at 2 _ rfl
    have r3 := HN5.out.at 3 _ rfl
    have r4 := HN5.out.at 4 _ rfl
    have r5 := HN5.out.at 5 _ rfl
    have r6 := HN5.out.at 6 _ rfl
    have r7 := HN5.out.at 7 _ rfl
    go_upto_region 5 with fail
    rw [HW5.out]
    clear HW5
    go_wp2_with fail
    (with_reducible refine HSa.out.mono ?_)
    rintro e w6 ⟨rfl, hb6⟩
    have HB6 := Lib.hid (HB5.out.trans (hb6.mono HB5.out.size))
    clear hb6
    go_upto_region 7 with fail
    have HDs := Lib.hid (decode_any s w6 HSS.out)
    cases hds : decR pr (bl s) with
    | none =>
      have hdq : Calls Tryz.prog 6 #[.string s] w6 fun e w' => ∃ v, e = .returned (.tuple #[v, .int .i64 3]) ∧ NodeV w' v noNode ∧ Bd noNode ∧ 0 ≤ noNode.access ∧ Below w6.heap.size w6 w' := by
        have h := HDs.out
        rw [hds] at h
        exact h
      have HDq := Lib.hid hdq
      clear hdq hds HDs
      go_wp2_with fail
      (with_reducible refine HDq.out.mono ?_)
      rintro e y1 ⟨v1, rfl, hv1, _, _, hb1⟩
      obtain ⟨A1, S1, I1, rfl, hA1, hS1, hI1⟩ := hv1
      obtain ⟨b1, l1, rfl⟩ := hA1.form
      obtain ⟨b2, l2, rfl⟩ := hS1.form
      obtain ⟨b3, l3, rfl⟩ := hI1.form
      obtain ⟨y2, hy2, hb2, hr2, hs2⟩ := one y1 27 [.string noNode.name, .bool noNode.coll, .int .u8 noNode.access, .int .i64 noNode.max, .slice b1 noNode.affs.length l1, .slice b2 noNode.subs.length l2, .slice b3 noNode.items.length l3, .string noNode.parent]
      have hb12 := hb1.trans (hb2.mono hb1.size)
      have HBy := Lib.hid (HB6.out.trans (hb12.mono HB6.out.size))
      have HRy := Lib.hid hr2
      have HY2 := Lib.hid hy2
      have f0 : y2.cell? ⟨y1.heap.size, 0, none⟩ = some (.string ⟨#[]⟩) := hr2.at 0 _ rfl
      clear hy2 hb2 hr2 hs2 hb12 hb1 hA1 hS1 hI1
      go_upto_region 8 with fail
      rw [HY2.out]
      clear HY2
      go_wp2_with fail
      (with_reducible refine (HLV.out y2).mono ?_)
      rintro e z9 ⟨rfl, hB9⟩
      have HB9 := Lib.hid (HBy.out.trans (hB9.mono HBy.out.size))
      have g0 := (hB9.cell (p := ⟨y1.heap.size, 0, none⟩) HRy.out.lt).trans f0
      clear hB9
      go_wp2_with fail
      go_returns
      exact ⟨rfl, HB9.out⟩
    | some m =>
      obtain ⟨hel, hrm⟩ := enc_dec hds
      have hdq : Calls Tryz.prog 6 #[.string s] w6 fun e w' => ∃ v, e = .returned (.tuple #[v, .int .i64 0]) ∧ NodeV w' v m ∧ Bd m ∧ 0 ≤ m.access ∧ Below w6.heap.size w6 w' := by
        have h := HDs.out
        rw [hds] at h
        exact h
      have HDq := Lib.hid hdq
      have HEL : Hid (bs (encL m) = s) := by show _ = _; rw [hel, bs_bl]
      have HRM := Lib.hid hrm
      clear hdq hds HDs hel hrm
      go_wp2_with fail
      (with_reducible refine HDq.out.mono ?_)
      rintro e y1 ⟨v1, rfl, hv1, hbd, hac, hb1⟩
      obtain ⟨A1, S1, I1, rfl, hA1, hS1, hI1⟩ := hv1
      obtain ⟨b1, l1, rfl⟩ := hA1.form
      obtain ⟨b2, l2, rfl⟩ := hS1.form
      obtain ⟨b3, l3, rfl⟩ := hI1.form
      obtain ⟨y2, hy2, hb2, hr2, hs2⟩ := one y1 27 [.string m.name, .bool m.coll, .int .u8 m.access, .int .i64 m.max, .slice b1 m.affs.length l1, .slice b2 m.subs.length l2, .slice b3 m.items.length l3, .string m.parent]
      have hb12 := hb1.trans (hb2.mono hb1.size)
      have HBy := Lib.hid (HB6.out.trans (hb12.mono HB6.out.size))
      have HRy := Lib.hid hr2
      have HY2 := Lib.hid hy2
      have HVy : Hid (NodeV y2 (.agg #[.string m.name, .bool m.coll, .int .u8 m.access, .int .i64 m.max, .slice b1 m.affs.length l1, .slice b2 m.subs.length l2, .slice b3 m.items.length l3, .string m.parent]) m) := NodeV.below ⟨_, _, _, rfl, hA1, hS1, hI1⟩ hb2
      have hen := encode_any _ m y2 HVy.out hbd hac (HT.out.below HBy.out HG.out)
      rw [HRM.out, if_pos rfl, HEL.out] at hen
      have HEn := Lib.hid hen
      have HRi := Lib.hid (fun W (hW : Below y2.heap.size y2 W) => right_any _ m W (HVy.out.below hW) hbd)
      clear hy2 hb2 hr2 hs2 hb12 hb1 hA1 hS1 hI1 hen hac
      go_upto_region 8 with fail
      rw [HY2.out]
      clear HY2
      have c0 := HRy.out.at 0 _ rfl
      have c1 := HRy.out.at 1 _ rfl
      have c2 := HRy.out.at 2 _ rfl
      have c3 := HRy.out.at 3 _ rfl
      have c4 := HRy.out.at 4 _ rfl
      have c5 := HRy.out.at 5 _ rfl
      have c6 := HRy.out.at 6 _ rfl
      have c7 := HRy.out.at 7 _ rfl
      go_wp2_with fail
      (with_reducible refine HEn.out.mono ?_)
      rintro e y3 ⟨rfl, hb3⟩
      have HBz := Lib.hid (HBy.out.trans (hb3.mono HBy.out.size))
      have HB23 := Lib.hid hb3
      clear hb3
      go_wp2_with fail
      (with_reducible refine (HLV.out y3).mono ?_)
      rintro e z9 ⟨rfl, hB9⟩
      have HB9 := Lib.hid (HBz.out.trans (hB9.mono HBz.out.size))
      have HB29 := Lib.hid (HB23.out.trans (hB9.mono HB23.out.size))
      have hri := HRi.out z9 HB29.out
      rw [HRM.out] at hri
      have HRi9 := Lib.hid hri
      have d0 := (HRy.out.below HB29.out).at 0 _ rfl
      have d1 := (HRy.out.below HB29.out).at 1 _ rfl
      have d2 := (HRy.out.below HB29.out).at 2 _ rfl
      have d3 := (HRy.out.below HB29.out).at 3 _ rfl
      have d4 := (HRy.out.below HB29.out).at 4 _ rfl
      have d5 := (HRy.out.below HB29.out).at 5 _ rfl
      have d6 := (HRy.out.below HB29.out).at 6 _ rfl
      have d7 := (HRy.out.below HB29.out).at 7 _ rfl
      have hss : (s.toList == s.toList) = true := by simp
      clear hB9 hri
      go_wp2_with fail
      (with_reducible refine HRi9.out.mono ?_)
      rintro e z10 ⟨rfl, hb10⟩
      have HBe := Lib.hid (HB9.out.trans (hb10.mono HB9.out.size))
      clear hb10
      go_wp2_with fail
      go_returns
      exact ⟨rfl, HBe.out⟩
end Go.Proofs.YtpjaopcgoaannaaGreatDoor
