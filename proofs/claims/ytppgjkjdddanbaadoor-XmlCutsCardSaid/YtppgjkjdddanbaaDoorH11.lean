/- The law XmlCuts: the walk. -/
import Derived.Test.YtppgjkjdddanbaaDoorH10
namespace Go.Proofs.YtppgjkjdddanbaaDoor
open Go.RowKit
open Hb

theorem seg_bytes (g off n cap l h : Nat) (H : Int) (hH : H = (h : Int)) (h1 : l ≤ h) (h2 : h ≤ cap) (h3 : l < cap) (W : World) :
    (Instr.slice 22 (.slice (some ⟨g, off, none⟩) n cap) (some (.int .i64 l)) (some (.int .i64 H)) none).run Tryd.prog W = .ok (.slice (some ⟨g, off + l, none⟩) (h - l) (cap - l)) W := by
  subst hH
  have hs : (Go.sizeOf (Tryd.prog.elem 22)).run Tryd.prog W = .ok 1 W := by kernel_rfl
  have hadd : (⟨g, off, none⟩ : Addr).add l = ⟨g, off + l, none⟩ := by unfold Addr.add; split <;> simp_all
  rw [run_slice_lh (P := Tryd.prog) W 22 (some ⟨g, off, none⟩) n cap (by kernel_rfl) .i64 .i64 l h (by omega) (by omega) (by omega), hs]
  simp only [Result.andThen, sliced, Int.toNat_natCast, Nat.mul_one, Option.map_some, hadd]
  rw [if_neg (by omega)]

/-- behind the last round: what of all was told is what was told in pieces. -/
theorem InvC.last {w W : World} {Ap Aq bo b1 : Nat} {lf : List UInt8} {v1 : Value} {cp : Array Value} {m f : Nat} {ov : Value} {p1 : PS} {ts1 : List Tok} {e1 : Nat} (hp : runP ps0 lf = (p1, ts1, e1)) (h : InvC w W Ap Aq bo b1 lf ts1 v1 cp m f ov) (hm : m ≤ lf.length) (hl : m = lf.length ∨ f ≠ 0) :
    f = e1 ∧ Told2 W b1 v1 ts1 ∧ Told2 W bo ov ts1 ∧ Box W Ap 47 cp ∧ Below w.heap.size w W ∧ ∃ vw vo, Par W w.heap.size Aq p1 vw vo := by
  obtain ⟨pq, tq, vw, vo, cells, h1, h2, h3, h4, h5, h6, h7, h8, h9⟩ := h
  have he : runP ps0 lf = (pq, tq, f) := by
    rcases hl with hl | hl
    · rw [hl, List.take_length] at h1; exact h1
    · have := runP_broke ps0 (lf.take m) (lf.drop m) (by rw [h1]; exact hl)
      rw [List.take_append_drop, h1] at this
      exact this
  rw [hp] at he
  cases he
  exact ⟨rfl, h5, ⟨cells, h3, h4⟩, h7, h8, vw, vo, h2⟩

set_option maxRecDepth 100000 in
set_option maxHeartbeats 16000000 in
theorem xmlCuts_walk (w : World) (va : Value) (la : List UInt8) (ha : InB w va la) (hla : la.length ≤ maxLen) (vc : Value) (lc : List UInt8) (hc : InB w vc lc) (hlc : lc.length ≤ maxLen) :
    Calls Tryd.prog 5 #[va, vc] w fun e w' => e = .returned (.bool true) ∧ Below w.heap.size w w' := by
  unfold maxLen at hla
  have HFA := Lib.hid (few_any va la w w ha (by omega))
  have HLV := Lib.hid live_any
  have HN := Lib.hid (new_any w)
  have HCC := Lib.hid hc
  obtain ⟨ac, cc, rfl⟩ : ∃ a c, vc = .slice a lc.length c := by obtain ⟨a, c, h, _⟩ := hc; exact ⟨a, c, h⟩
  clear ha hla hc hlc
  go_enter Tryd.func5, Tryd.ntmps5
  go_wp2_with fail
  go_at_call 13
  with_reducible refine HFA.out.mono ?_
  rintro e w1' ⟨⟨va', rfl, hva⟩, hw⟩
  obtain rfl := hw.symm
  have hlen := few_len la
  generalize la.take 3000 = lf at hva hlen
  obtain ⟨aa, ca, rfl⟩ : ∃ a c, va' = .slice a lf.length c := by obtain ⟨a, c, h, _⟩ := hva; exact ⟨a, c, h⟩
  have HVA := Lib.hid hva
  clear hva
  go_wp2_with fail
  go_at_call 11
  with_reducible refine HN.out.mono ?_
  rintro e w1 ⟨rfl, hw1⟩
  have HB1 := Lib.hid (show Below w.heap.size w w1 by rw [hw1]; exact (Below.refl _ w).alloc (Nat.le_refl _) _)
  have HP1 := Lib.hid (show Par w1 w.heap.size w.heap.size ps0 (.slice none 0 0) (.slice none 0 0) by rw [hw1]; exact Par.new w)
  have HS1 := Lib.hid (show w1.heap.size = w.heap.size + 1 by rw [hw1, World.size_alloc])
  have HN1 := Lib.hid (new_any w1)
  clear hw1
  go_wp2_with fail
  go_at_call 11
  with_reducible refine HN1.out.mono ?_
  rintro e w2 ⟨rfl, hw2⟩
  have HB2 := Lib.hid (show Below w1.heap.size w1 w2 by rw [hw2]; exact (Below.refl _ w1).alloc (Nat.le_refl _) _)
  have HQ2 := Lib.hid (show Par w2 w1.heap.size w1.heap.size ps0 (.slice none 0 0) (.slice none 0 0) by rw [hw2]; exact Par.new w1)
  have HS2 := Lib.hid (show w2.heap.size = w1.heap.size + 1 by rw [hw2, World.size_alloc])
  clear hw2
  have hB12 := HB1.out.trans (HB2.out.mono HB1.out.size)
  have hf1 := feed_told w.heap.size w.heap.size w.heap.size ps0 lf _ _ _ w2 (HP1.out.below HB2.out) (.inl rfl) fit0 rfl (HVA.out.bytesAt hB12 (Nat.le_refl _) (Nat.le_refl _)) hB12.size (by omega)
  obtain ⟨r, hr⟩ : ∃ r, r = runP ps0 lf := ⟨_, rfl⟩
  have hat : ∀ t ∈ r.2.1, t.attrs.length ≤ 8 := by rw [hr]; exact runP_attrs lf ps0
  have hlt : r.2.1.length ≤ 9000 := by rw [hr]; have := runP_len3 lf ps0 fit0; omega
  rw [← hr] at hf1
  obtain ⟨p1, ts1, e1⟩ := r
  dsimp only at hf1 hat hlt
  have HF1 := Lib.hid hf1
  have HRUN := Lib.hid hr.symm
  have HAT := Lib.hid hat
  have HTL := Lib.hid hlt
  have HB12 := Lib.hid hB12
  clear hf1 hr hat hlt hB12
  go_wp2_with fail
  go_at_call 12
  with_reducible refine HF1.out.mono ?_
  rintro e w3 ⟨vw3, vo3, v3, rfl, hP3, hT3, hF3⟩
  obtain ⟨gw3, cw3, hgw⟩ := ownB_slice hP3.wait
  obtain ⟨go3, co3, hgo⟩ := row_slice hP3.opn
  have hbx := hP3.box
  rw [hgw, hgo] at hbx
  have hq3 : Par w3 w.heap.size w1.heap.size ps0 (.slice none 0 0) (.slice none 0 0) := by
    refine ⟨Only.box hF3 HQ2.out.box (fun hs => ?_), OwnB.nil _ _ _, World.ownsRow_nil _ _ _ _⟩
    rcases hs with hs | ⟨_, hs⟩
    · have := HS1.out; omega
    · exact absurd (HQ2.out.box.tag.ne hs) (by decide)
  obtain ⟨a3, c3, rfl, hown3⟩ := hT3.nilOr
  have HINV := Lib.hid (show InvC w w3 w.heap.size w1.heap.size w3.heap.size w2.heap.size lf ts1 (.slice a3 ts1.length c3) _ 0 0 (.slice none 0 0) from
    ⟨ps0, [], _, _, [], rfl, hq3, World.ownsRow_nil _ _ _ _, rfl, hT3, fun k hk => by
      obtain ⟨cells, h3, _⟩ := hT3
      exact (World.ownsRow.lt h3 k hk.symm).2, hbx, HB12.out.trans (hF3.belowOf (Nat.le_refl _) (Nat.le_refl _) HB12.out.size), Nat.le_refl _⟩)
  have HAQ := Lib.hid (show w.heap.size ≤ w1.heap.size from HB1.out.size)
  have HBO := Lib.hid (show w1.heap.size < w3.heap.size from by have := HS2.out; have := hF3.size; omega)
  clear hP3 hT3 hF3 hgw hgo hbx hq3 hown3
  go_wp2_with fail
  go_loopw [9, 10, 11, 12] (fun ov fv av iv W => ∃ (i m : Nat), m ≤ lf.length ∧ i ≤ 4000 ∧ fv = .int .i64 0 ∧ av = .int .i64 m ∧ iv = .int .i64 i ∧ Hid (InvC w W w.heap.size w1.heap.size w3.heap.size w2.heap.size lf ts1 (.slice a3 ts1.length c3) #[.slice gw3 p1.wait.length cw3, .int .u8 p1.quote.toNat, .slice go3 p1.opn.length co3, .bool p1.rooted, .bool p1.begun, .int .i64 p1.broken] m 0 ov)) (fun _ _ _ iv _ => 4000 - (intOf iv).toNat)
  case atStart => exact ⟨0, 0, Nat.zero_le _, by omega, rfl, rfl, rfl, HINV.out⟩
  case round =>
    obtain ⟨i, m, hm, hi, rfl, rfl, rfl, HC⟩ := hrel
    obtain ⟨so, co, n0, rfl⟩ : ∃ a c n, u9 = .slice a n c := by
      obtain ⟨_, tq, _, _, _, _, _, h3, _⟩ := HC.out
      obtain ⟨a, c, h⟩ := row_slice h3
      exact ⟨a, c, _, h⟩
    by_cases hlt : m < lf.length
    · have cm : decide ((m : Int) < (lf.length : Int)) = true := by simp; omega
      by_cases h40 : i < 4000
      · have c40 : decide ((i : Int) < 4000) = true := by simp; omega
        have hne : lf ≠ [] := fun h => by rw [h] at hlt; cases hlt
        obtain ⟨aa', ca', hv, hcap, hcell⟩ := HVA.out
        injection hv with hv1 hv2 hv3
        obtain ⟨g, off, hag, hg, hx⟩ := hcell.resolve_left hne
        rw [← hv1] at hag
        subst hag
        rw [← hv3] at hcap
        have HX := Lib.hid hx
        have HCAP := Lib.hid hcap
        clear hne hv1 hv2 hv3 hcell hx hcap
        have hnc : ¬ i < lc.length ∨ i < lc.length := by omega
        rcases hnc with hic | hic
        · have cic : decide ((i : Int) < (lc.length : Int)) = false := by simp; omega
          have cr : decide ((lf.length : Int) - (m : Int) < 1) = false := by simp; omega
          have hnn : m + 1 ≤ lf.length := by omega
          have hseg := seg_bytes g off lf.length ca m (m + 1) ((m : Int) + 1) (by omega) (by omega) (by have := HCAP.out; omega) (by have := HCAP.out; omega)
          rw [Nat.add_sub_cancel_left] at hseg
          have HFE := Lib.hid (HC.out.feed 1 g off (ca - m) HAQ.out (by have := HS1.out; omega) HBO.out hlen hnn hg HX.out)
          have HNN := Lib.hid hnn
          clear hnn
          go_wp2_with fail
          go_at_call 12
          with_reducible refine HFE.out.mono ?_
          rintro e w5 ⟨v5, f5, n5, m5, cs5, ds5, rfl, hM⟩
          have HM := Lib.hid hM
          clear hM
          obtain ⟨i0, hii, hz0, hz1, hz2⟩ := info_parts infoTok
          have HII := Lib.hid (And.intro hii (And.intro hz0 (And.intro hz1 hz2)))
          clear hii hz0 hz1 hz2
          have hv5 : v5 = .slice none 0 0 ∨ ∃ gl cl, v5 = .slice (some ⟨gl, 0, none⟩) m5 cl := by
            obtain ⟨_, _, _, _, _, b3, _, _, _, _, _, _, h5, _⟩ := HM.out
            rcases h5.2 with ⟨e1, _⟩ | ⟨gl, cap, cur, e1, _⟩
            · exact .inl e1
            · exact .inr ⟨gl, cap, e1⟩
          rcases hv5 with rfl | ⟨gl, cl, rfl⟩
          · have hO : w5.ownsRow w3.heap.size 34 4 (.slice so n0 co) n5 cs5 := by obtain ⟨_, _, _, _, _, _, _, _, _, _, h3, _⟩ := HM.out; exact h3
            have HO := Lib.hid hO
            have HI2 := Lib.hid HM.out.none
            clear hO
            by_cases hf : f5 = 0
            · subst hf
              have k0 : (((0 : Nat) : Int) != 0) = false := rfl
              go_wp2_with (at_builtin; refine wpList_append_own_none rfl (.tmp 69) (.tmp 70) 25 rfl w3.heap.size 34 i0 4 Tryd.underlying25 HII.out.1 (.slice so n0 co) n5 cs5 rfl HO.out rfl ?_)
              go_roundw
              case rel => exact ⟨i + 1, m + 1, HNN.out, by omega, rfl, by go_num, by go_num, HI2.out⟩
              case measure => simp [intOf]; omega
            · have k0 : ((f5 : Int) != 0) = true := by unfold bne; rw [(beq_eq_false_iff_ne).2 (by omega)]; rfl
              have k4 : ((f5 : Int) == 0) = false := by rw [beq_eq_false_iff_ne]; omega
              have hl := HI2.out.last HRUN.out HNN.out (.inr hf)
              by_cases hae : m + 1 < lf.length
              · have k5 : decide ((m : Int) + 1 < (lf.length : Int)) = true := by simp; omega
                obtain ⟨hfe, hT1, hTo, hbp, hBB, vwq, voq, hPq⟩ := hl
                obtain ⟨gwq, cwq, hgw⟩ := ownB_slice hPq.wait
                obtain ⟨goq, coq, hgo⟩ := row_slice hPq.opn
                have hbq := hPq.box
                rw [hgw, hgo] at hbq
                have HSM := Lib.hid (fun W (hb : Below w5.heap.size w5 W) => same_any _ _ _ _ ts1 W (hT1.below hb) (hTo.below hb) (by have := HTL.out; omega) (fun t ht => by have := HAT.out t ht; omega))
                have HDP := Lib.hid (fun W (hb : Below w5.heap.size w5 W) => depth_any w.heap.size _ _ _ _ _ go3 p1.opn.length co3 W ((hb.block _ hbp.lt).trans hbp))
                have HDQ := Lib.hid (fun W (hb : Below w5.heap.size w5 W) => depth_any w1.heap.size _ _ _ _ _ goq p1.opn.length coq W ((hb.block _ hbq.lt).trans hbq))
                have HLP := Lib.hid (fun W (hb : Below w5.heap.size w5 W) => left_any w.heap.size _ _ _ _ _ gw3 p1.wait.length cw3 W ((hb.block _ hbp.lt).trans hbp))
                have HLQ := Lib.hid (fun W (hb : Below w5.heap.size w5 W) => left_any w1.heap.size _ _ _ _ _ gwq p1.wait.length cwq W ((hb.block _ hbq.lt).trans hbq))
                have HBBH := Lib.hid hBB
                have k1 : ((p1.opn.length : Int) == (p1.opn.length : Int)) = true := by simp
                have k2 : ((p1.wait.length : Int) == (p1.wait.length : Int)) = true := by simp
                subst hfe
                have k3 : ((f5 : Int) == (f5 : Int)) = true := by simp
                clear hT1 hTo hbp hBB hPq hgw hgo hbq
                go_wp2_with (at_builtin; refine wpList_append_own_none rfl (.tmp 69) (.tmp 70) 25 rfl w3.heap.size 34 i0 4 Tryd.underlying25 HII.out.1 (.slice so n0 co) n5 cs5 rfl HO.out rfl ?_)
                go_at_call 14
                with_reducible refine (HLV.out _).mono ?_
                rintro e w5 ⟨rfl, hB5⟩
                go_wp2_with fail
                go_at_call 16
                with_reducible refine (HSM.out _ hB5).mono ?_
                rintro e w6 ⟨rfl, hB6⟩
                have hB56 := hB5.trans (hB6.mono hB5.size)
                go_wp2_with fail
                go_at_call 15
                with_reducible refine (HDP.out _ hB56).mono ?_
                rintro e w7 ⟨rfl, hw⟩
                obtain rfl := hw.symm
                go_wp2_with fail
                go_at_call 15
                with_reducible refine (HDQ.out _ hB56).mono ?_
                rintro e w7 ⟨rfl, hw⟩
                obtain rfl := hw.symm
                go_wp2_with fail
                go_at_call 17
                with_reducible refine (HLP.out _ hB56).mono ?_
                rintro e w7 ⟨rfl, hw⟩
                obtain rfl := hw.symm
                go_wp2_with fail
                go_at_call 17
                with_reducible refine (HLQ.out _ hB56).mono ?_
                rintro e w7 ⟨rfl, hw⟩
                obtain rfl := hw.symm
                go_wp2_with fail
                go_returns
                exact ⟨rfl, HBBH.out.trans (hB56.mono HBBH.out.size)⟩
              · have k5 : decide ((m : Int) + 1 < (lf.length : Int)) = false := by simp; omega
                obtain ⟨hfe, hT1, hTo, hbp, hBB, vwq, voq, hPq⟩ := hl
                obtain ⟨gwq, cwq, hgw⟩ := ownB_slice hPq.wait
                obtain ⟨goq, coq, hgo⟩ := row_slice hPq.opn
                have hbq := hPq.box
                rw [hgw, hgo] at hbq
                have HSM := Lib.hid (fun W (hb : Below w5.heap.size w5 W) => same_any _ _ _ _ ts1 W (hT1.below hb) (hTo.below hb) (by have := HTL.out; omega) (fun t ht => by have := HAT.out t ht; omega))
                have HDP := Lib.hid (fun W (hb : Below w5.heap.size w5 W) => depth_any w.heap.size _ _ _ _ _ go3 p1.opn.length co3 W ((hb.block _ hbp.lt).trans hbp))
                have HDQ := Lib.hid (fun W (hb : Below w5.heap.size w5 W) => depth_any w1.heap.size _ _ _ _ _ goq p1.opn.length coq W ((hb.block _ hbq.lt).trans hbq))
                have HLP := Lib.hid (fun W (hb : Below w5.heap.size w5 W) => left_any w.heap.size _ _ _ _ _ gw3 p1.wait.length cw3 W ((hb.block _ hbp.lt).trans hbp))
                have HLQ := Lib.hid (fun W (hb : Below w5.heap.size w5 W) => left_any w1.heap.size _ _ _ _ _ gwq p1.wait.length cwq W ((hb.block _ hbq.lt).trans hbq))
                have HBBH := Lib.hid hBB
                have k1 : ((p1.opn.length : Int) == (p1.opn.length : Int)) = true := by simp
                have k2 : ((p1.wait.length : Int) == (p1.wait.length : Int)) = true := by simp
                subst hfe
                have k3 : ((f5 : Int) == (f5 : Int)) = true := by simp
                clear hT1 hTo hbp hBB hPq hgw hgo hbq
                go_wp2_with (at_builtin; refine wpList_append_own_none rfl (.tmp 69) (.tmp 70) 25 rfl w3.heap.size 34 i0 4 Tryd.underlying25 HII.out.1 (.slice so n0 co) n5 cs5 rfl HO.out rfl ?_)
                go_at_call 14
                with_reducible refine (HLV.out _).mono ?_
                rintro e w5 ⟨rfl, hB5⟩
                go_wp2_with fail
                go_at_call 16
                with_reducible refine (HSM.out _ hB5).mono ?_
                rintro e w6 ⟨rfl, hB6⟩
                have hB56 := hB5.trans (hB6.mono hB5.size)
                go_wp2_with fail
                go_at_call 15
                with_reducible refine (HDP.out _ hB56).mono ?_
                rintro e w7 ⟨rfl, hw⟩
                obtain rfl := hw.symm
                go_wp2_with fail
                go_at_call 15
                with_reducible refine (HDQ.out _ hB56).mono ?_
                rintro e w7 ⟨rfl, hw⟩
                obtain rfl := hw.symm
                go_wp2_with fail
                go_at_call 17
                with_reducible refine (HLP.out _ hB56).mono ?_
                rintro e w7 ⟨rfl, hw⟩
                obtain rfl := hw.symm
                go_wp2_with fail
                go_at_call 17
                with_reducible refine (HLQ.out _ hB56).mono ?_
                rintro e w7 ⟨rfl, hw⟩
                obtain rfl := hw.symm
                go_wp2_with fail
                go_returns
                exact ⟨rfl, HBBH.out.trans (hB56.mono HBBH.out.size)⟩
          · have hO : w5.ownsRow w3.heap.size 34 4 (.slice so n0 co) n5 cs5 := by obtain ⟨_, _, _, _, _, _, _, _, _, _, h3, _⟩ := HM.out; exact h3
            have HO := Lib.hid hO
            have hD : ds5.length = m5 * 4 ∧ (∀ j u, ds5[j]? = some u → w5.cell? ((⟨gl, 0, none⟩ : Addr).add j) = some u) ∧ (∀ u ∈ ds5, u.oneCell' = true) ∧ n5 + m5 ≤ 9000 ∧ w3.heap.size ≤ w5.heap.size := by
              obtain ⟨_, tq, tl, _, _, b3, h1, _, q1, q2, h3, h4, h5, h6, _, _, _, _, h11⟩ := HM.out
              refine ⟨h5.1, fun j u hj => ?_, tokCells_one h6, ?_, h11⟩
              · exact World.ownsRow.cells h5 (g := gl) rfl j u hj
              · have := runP_len3 (lf.take (m + 1)) ps0 fit0
                rw [h1, List.length_take, List.length_append] at this
                have hmn : min (m + 1) lf.length ≤ 3000 := by omega
                omega
            have HD := Lib.hid hD
            clear hO hD
            by_cases hf : f5 = 0
            · subst hf
              have k0 : (((0 : Nat) : Int) != 0) = false := rfl
              go_wp2_with (at_builtin; refine wpList_append_own _ rfl (.tmp 69) (.tmp 70) 25 rfl w3.heap.size 34 i0 tokZero 4 64 Tryd.underlying25 HII.out.1 HII.out.2.1 HII.out.2.2.1 HII.out.2.2.2 rfl (by omega) (.slice so n0 co) n5 cs5 rfl HO.out ⟨gl, 0, none⟩ m5 cl ds5 rfl HD.out.1 HD.out.2.1 HD.out.2.2.1 (by have := HD.out.2.2.2.1; simp only [maxLen]; omega) (by have := HD.out.2.2.2.1; omega) HD.out.2.2.2.2 ?_; intro v8 w8 hown hg8 _; obtain ⟨sa8, sc8, rfl⟩ := row_slice hown)
              have HI2 := Lib.hid (HM.out.app (Nat.le_trans HAQ.out (Nat.le_of_lt HBO.out)) hown hg8)
              go_roundw
              case rel => exact ⟨i + 1, m + 1, HNN.out, by omega, rfl, by go_num, by go_num, HI2.out⟩
              case measure => simp [intOf]; omega
            · have k0 : ((f5 : Int) != 0) = true := by unfold bne; rw [(beq_eq_false_iff_ne).2 (by omega)]; rfl
              have k4 : ((f5 : Int) == 0) = false := by rw [beq_eq_false_iff_ne]; omega
              by_cases hae : m + 1 < lf.length
              · have k5 : decide ((m : Int) + 1 < (lf.length : Int)) = true := by simp; omega
                go_wp2_with (at_builtin; refine wpList_append_own _ rfl (.tmp 69) (.tmp 70) 25 rfl w3.heap.size 34 i0 tokZero 4 64 Tryd.underlying25 HII.out.1 HII.out.2.1 HII.out.2.2.1 HII.out.2.2.2 rfl (by omega) (.slice so n0 co) n5 cs5 rfl HO.out ⟨gl, 0, none⟩ m5 cl ds5 rfl HD.out.1 HD.out.2.1 HD.out.2.2.1 (by have := HD.out.2.2.2.1; simp only [maxLen]; omega) (by have := HD.out.2.2.2.1; omega) HD.out.2.2.2.2 ?_; intro v8 w8 hown hg8 _; obtain ⟨sa8, sc8, rfl⟩ := row_slice hown; have HI2 := Lib.hid (HM.out.app (Nat.le_trans HAQ.out (Nat.le_of_lt HBO.out)) hown hg8); have HLA := Lib.hid (HI2.out.last HRUN.out HNN.out (.inr hf)))
                have hl := HLA.out
                obtain ⟨hfe, hT1, hTo, hbp, hBB, vwq, voq, hPq⟩ := hl
                obtain ⟨gwq, cwq, hgw⟩ := ownB_slice hPq.wait
                obtain ⟨goq, coq, hgo⟩ := row_slice hPq.opn
                have hbq := hPq.box
                rw [hgw, hgo] at hbq
                have HSM := Lib.hid (fun W (hb : Below w8.heap.size w8 W) => same_any _ _ _ _ ts1 W (hT1.below hb) (hTo.below hb) (by have := HTL.out; omega) (fun t ht => by have := HAT.out t ht; omega))
                have HDP := Lib.hid (fun W (hb : Below w8.heap.size w8 W) => depth_any w.heap.size _ _ _ _ _ go3 p1.opn.length co3 W ((hb.block _ hbp.lt).trans hbp))
                have HDQ := Lib.hid (fun W (hb : Below w8.heap.size w8 W) => depth_any w1.heap.size _ _ _ _ _ goq p1.opn.length coq W ((hb.block _ hbq.lt).trans hbq))
                have HLP := Lib.hid (fun W (hb : Below w8.heap.size w8 W) => left_any w.heap.size _ _ _ _ _ gw3 p1.wait.length cw3 W ((hb.block _ hbp.lt).trans hbp))
                have HLQ := Lib.hid (fun W (hb : Below w8.heap.size w8 W) => left_any w1.heap.size _ _ _ _ _ gwq p1.wait.length cwq W ((hb.block _ hbq.lt).trans hbq))
                have HBBH := Lib.hid hBB
                have k1 : ((p1.opn.length : Int) == (p1.opn.length : Int)) = true := by simp
                have k2 : ((p1.wait.length : Int) == (p1.wait.length : Int)) = true := by simp
                subst hfe
                have k3 : ((f5 : Int) == (f5 : Int)) = true := by simp
                clear hT1 hTo hbp hBB hPq hgw hgo hbq
                go_at_call 14
                with_reducible refine (HLV.out _).mono ?_
                rintro e w5 ⟨rfl, hB5⟩
                go_wp2_with fail
                go_at_call 16
                with_reducible refine (HSM.out _ hB5).mono ?_
                rintro e w6 ⟨rfl, hB6⟩
                have hB56 := hB5.trans (hB6.mono hB5.size)
                go_wp2_with fail
                go_at_call 15
                with_reducible refine (HDP.out _ hB56).mono ?_
                rintro e w7 ⟨rfl, hw⟩
                obtain rfl := hw.symm
                go_wp2_with fail
                go_at_call 15
                with_reducible refine (HDQ.out _ hB56).mono ?_
                rintro e w7 ⟨rfl, hw⟩
                obtain rfl := hw.symm
                go_wp2_with fail
                go_at_call 17
                with_reducible refine (HLP.out _ hB56).mono ?_
                rintro e w7 ⟨rfl, hw⟩
                obtain rfl := hw.symm
                go_wp2_with fail
                go_at_call 17
                with_reducible refine (HLQ.out _ hB56).mono ?_
                rintro e w7 ⟨rfl, hw⟩
                obtain rfl := hw.symm
                go_wp2_with fail
                go_returns
                exact ⟨rfl, HBBH.out.trans (hB56.mono HBBH.out.size)⟩
              · have k5 : decide ((m : Int) + 1 < (lf.length : Int)) = false := by simp; omega
                go_wp2_with (at_builtin; refine wpList_append_own _ rfl (.tmp 69) (.tmp 70) 25 rfl w3.heap.size 34 i0 tokZero 4 64 Tryd.underlying25 HII.out.1 HII.out.2.1 HII.out.2.2.1 HII.out.2.2.2 rfl (by omega) (.slice so n0 co) n5 cs5 rfl HO.out ⟨gl, 0, none⟩ m5 cl ds5 rfl HD.out.1 HD.out.2.1 HD.out.2.2.1 (by have := HD.out.2.2.2.1; simp only [maxLen]; omega) (by have := HD.out.2.2.2.1; omega) HD.out.2.2.2.2 ?_; intro v8 w8 hown hg8 _; obtain ⟨sa8, sc8, rfl⟩ := row_slice hown; have HI2 := Lib.hid (HM.out.app (Nat.le_trans HAQ.out (Nat.le_of_lt HBO.out)) hown hg8); have HLA := Lib.hid (HI2.out.last HRUN.out HNN.out (.inr hf)))
                have hl := HLA.out
                obtain ⟨hfe, hT1, hTo, hbp, hBB, vwq, voq, hPq⟩ := hl
                obtain ⟨gwq, cwq, hgw⟩ := ownB_slice hPq.wait
                obtain ⟨goq, coq, hgo⟩ := row_slice hPq.opn
                have hbq := hPq.box
                rw [hgw, hgo] at hbq
                have HSM := Lib.hid (fun W (hb : Below w8.heap.size w8 W) => same_any _ _ _ _ ts1 W (hT1.below hb) (hTo.below hb) (by have := HTL.out; omega) (fun t ht => by have := HAT.out t ht; omega))
                have HDP := Lib.hid (fun W (hb : Below w8.heap.size w8 W) => depth_any w.heap.size _ _ _ _ _ go3 p1.opn.length co3 W ((hb.block _ hbp.lt).trans hbp))
                have HDQ := Lib.hid (fun W (hb : Below w8.heap.size w8 W) => depth_any w1.heap.size _ _ _ _ _ goq p1.opn.length coq W ((hb.block _ hbq.lt).trans hbq))
                have HLP := Lib.hid (fun W (hb : Below w8.heap.size w8 W) => left_any w.heap.size _ _ _ _ _ gw3 p1.wait.length cw3 W ((hb.block _ hbp.lt).trans hbp))
                have HLQ := Lib.hid (fun W (hb : Below w8.heap.size w8 W) => left_any w1.heap.size _ _ _ _ _ gwq p1.wait.length cwq W ((hb.block _ hbq.lt).trans hbq))
                have HBBH := Lib.hid hBB
                have k1 : ((p1.opn.length : Int) == (p1.opn.length : Int)) = true := by simp
                have k2 : ((p1.wait.length : Int) == (p1.wait.length : Int)) = true := by simp
                subst hfe
                have k3 : ((f5 : Int) == (f5 : Int)) = true := by simp
                clear hT1 hTo hbp hBB hPq hgw hgo hbq
                go_at_call 14
                with_reducible refine (HLV.out _).mono ?_
                rintro e w5 ⟨rfl, hB5⟩
                go_wp2_with fail
                go_at_call 16
                with_reducible refine (HSM.out _ hB5).mono ?_
                rintro e w6 ⟨rfl, hB6⟩
                have hB56 := hB5.trans (hB6.mono hB5.size)
                go_wp2_with fail
                go_at_call 15
                with_reducible refine (HDP.out _ hB56).mono ?_
                rintro e w7 ⟨rfl, hw⟩
                obtain rfl := hw.symm
                go_wp2_with fail
                go_at_call 15
                with_reducible refine (HDQ.out _ hB56).mono ?_
                rintro e w7 ⟨rfl, hw⟩
                obtain rfl := hw.symm
                go_wp2_with fail
                go_at_call 17
                with_reducible refine (HLP.out _ hB56).mono ?_
                rintro e w7 ⟨rfl, hw⟩
                obtain rfl := hw.symm
                go_wp2_with fail
                go_at_call 17
                with_reducible refine (HLQ.out _ hB56).mono ?_
                rintro e w7 ⟨rfl, hw⟩
                obtain rfl := hw.symm
                go_wp2_with fail
                go_returns
                exact ⟨rfl, HBBH.out.trans (hB56.mono HBBH.out.size)⟩
        · have cic : decide ((i : Int) < (lc.length : Int)) = true := by simp; omega
          have hnec : lc ≠ [] := fun h => by rw [h] at hic; cases hic
          obtain ⟨ac', cc', hvc, _, hcellc⟩ := HCC.out
          injection hvc with hvc1 hvc2 hvc3
          obtain ⟨g2, off2, hag2, hg2, hx2⟩ := hcellc.resolve_left hnec
          rw [← hvc1] at hag2
          subst hag2
          have hBw : Below w.heap.size w wr := by obtain ⟨_, _, _, _, _, _, _, _, _, _, _, _, hBB, _⟩ := HC.out; exact hBB
          have y2 : wr.cell? ⟨g2, off2 + i, none⟩ = some (.int .u8 lc[i].toNat) := (hBw.cell (p := ⟨g2, off2 + i, none⟩) hg2).trans (hx2 i hic)
          have hnb : lc[i].toNat < 256 := lc[i].toNat_lt
          generalize lc[i].toNat = nn at y2 hnb
          clear hnec hvc1 hvc2 hvc3 hcellc hx2 hBw
          by_cases hrem : lf.length - m < nn
          · obtain ⟨d, hd0⟩ : ∃ d, d = lf.length - m := ⟨_, rfl⟩
            have hd : (lf.length : Int) - (m : Int) = (d : Int) := by omega
            have cr : decide ((d : Int) < (nn : Int)) = true := by simp; omega
            have cr2 : decide (d < nn) = true := by simp; omega
            have hnn : m + d ≤ lf.length := by omega
            clear hrem
            have hseg := seg_bytes g off lf.length ca m (m + d) ((m : Int) + (d : Int)) (by omega) (by omega) (by have := HCAP.out; omega) (by have := HCAP.out; omega)
            rw [Nat.add_sub_cancel_left] at hseg
            have HFE := Lib.hid (HC.out.feed d g off (ca - m) HAQ.out (by have := HS1.out; omega) HBO.out hlen hnn hg HX.out)
            have HNN := Lib.hid hnn
            clear hnn hd0
            go_wp2_with fail
            go_at_call 12
            with_reducible refine HFE.out.mono ?_
            rintro e w5 ⟨v5, f5, n5, m5, cs5, ds5, rfl, hM⟩
            have HM := Lib.hid hM
            clear hM
            obtain ⟨i0, hii, hz0, hz1, hz2⟩ := info_parts infoTok
            have HII := Lib.hid (And.intro hii (And.intro hz0 (And.intro hz1 hz2)))
            clear hii hz0 hz1 hz2
            have hv5 : v5 = .slice none 0 0 ∨ ∃ gl cl, v5 = .slice (some ⟨gl, 0, none⟩) m5 cl := by
              obtain ⟨_, _, _, _, _, b3, _, _, _, _, _, _, h5, _⟩ := HM.out
              rcases h5.2 with ⟨e1, _⟩ | ⟨gl, cap, cur, e1, _⟩
              · exact .inl e1
              · exact .inr ⟨gl, cap, e1⟩
            rcases hv5 with rfl | ⟨gl, cl, rfl⟩
            · have hO : w5.ownsRow w3.heap.size 34 4 (.slice so n0 co) n5 cs5 := by obtain ⟨_, _, _, _, _, _, _, _, _, _, h3, _⟩ := HM.out; exact h3
              have HO := Lib.hid hO
              have HI2 := Lib.hid HM.out.none
              clear hO
              by_cases hf : f5 = 0
              · subst hf
                have k0 : (((0 : Nat) : Int) != 0) = false := rfl
                go_wp2_with (at_builtin; refine wpList_append_own_none rfl (.tmp 69) (.tmp 70) 25 rfl w3.heap.size 34 i0 4 Tryd.underlying25 HII.out.1 (.slice so n0 co) n5 cs5 rfl HO.out rfl ?_)
                go_roundw
                case rel => exact ⟨i + 1, m + d, HNN.out, by omega, rfl, by go_num, by go_num, HI2.out⟩
                case measure => simp [intOf]; omega
              · have k0 : ((f5 : Int) != 0) = true := by unfold bne; rw [(beq_eq_false_iff_ne).2 (by omega)]; rfl
                have k4 : ((f5 : Int) == 0) = false := by rw [beq_eq_false_iff_ne]; omega
                have hl := HI2.out.last HRUN.out HNN.out (.inr hf)
                by_cases hae : m + d < lf.length
                · have k5 : decide ((m : Int) + (d : Int) < (lf.length : Int)) = true := by simp; omega
                  obtain ⟨hfe, hT1, hTo, hbp, hBB, vwq, voq, hPq⟩ := hl
                  obtain ⟨gwq, cwq, hgw⟩ := ownB_slice hPq.wait
                  obtain ⟨goq, coq, hgo⟩ := row_slice hPq.opn
                  have hbq := hPq.box
                  rw [hgw, hgo] at hbq
                  have HSM := Lib.hid (fun W (hb : Below w5.heap.size w5 W) => same_any _ _ _ _ ts1 W (hT1.below hb) (hTo.below hb) (by have := HTL.out; omega) (fun t ht => by have := HAT.out t ht; omega))
                  have HDP := Lib.hid (fun W (hb : Below w5.heap.size w5 W) => depth_any w.heap.size _ _ _ _ _ go3 p1.opn.length co3 W ((hb.block _ hbp.lt).trans hbp))
                  have HDQ := Lib.hid (fun W (hb : Below w5.heap.size w5 W) => depth_any w1.heap.size _ _ _ _ _ goq p1.opn.length coq W ((hb.block _ hbq.lt).trans hbq))
                  have HLP := Lib.hid (fun W (hb : Below w5.heap.size w5 W) => left_any w.heap.size _ _ _ _ _ gw3 p1.wait.length cw3 W ((hb.block _ hbp.lt).trans hbp))
                  have HLQ := Lib.hid (fun W (hb : Below w5.heap.size w5 W) => left_any w1.heap.size _ _ _ _ _ gwq p1.wait.length cwq W ((hb.block _ hbq.lt).trans hbq))
                  have HBBH := Lib.hid hBB
                  have k1 : ((p1.opn.length : Int) == (p1.opn.length : Int)) = true := by simp
                  have k2 : ((p1.wait.length : Int) == (p1.wait.length : Int)) = true := by simp
                  subst hfe
                  have k3 : ((f5 : Int) == (f5 : Int)) = true := by simp
                  clear hT1 hTo hbp hBB hPq hgw hgo hbq
                  go_wp2_with (at_builtin; refine wpList_append_own_none rfl (.tmp 69) (.tmp 70) 25 rfl w3.heap.size 34 i0 4 Tryd.underlying25 HII.out.1 (.slice so n0 co) n5 cs5 rfl HO.out rfl ?_)
                  go_at_call 14
                  with_reducible refine (HLV.out _).mono ?_
                  rintro e w5 ⟨rfl, hB5⟩
                  go_wp2_with fail
                  go_at_call 16
                  with_reducible refine (HSM.out _ hB5).mono ?_
                  rintro e w6 ⟨rfl, hB6⟩
                  have hB56 := hB5.trans (hB6.mono hB5.size)
                  go_wp2_with fail
                  go_at_call 15
                  with_reducible refine (HDP.out _ hB56).mono ?_
                  rintro e w7 ⟨rfl, hw⟩
                  obtain rfl := hw.symm
                  go_wp2_with fail
                  go_at_call 15
                  with_reducible refine (HDQ.out _ hB56).mono ?_
                  rintro e w7 ⟨rfl, hw⟩
                  obtain rfl := hw.symm
                  go_wp2_with fail
                  go_at_call 17
                  with_reducible refine (HLP.out _ hB56).mono ?_
                  rintro e w7 ⟨rfl, hw⟩
                  obtain rfl := hw.symm
                  go_wp2_with fail
                  go_at_call 17
                  with_reducible refine (HLQ.out _ hB56).mono ?_
                  rintro e w7 ⟨rfl, hw⟩
                  obtain rfl := hw.symm
                  go_wp2_with fail
                  go_returns
                  exact ⟨rfl, HBBH.out.trans (hB56.mono HBBH.out.size)⟩
                · have k5 : decide ((m : Int) + (d : Int) < (lf.length : Int)) = false := by simp; omega
                  obtain ⟨hfe, hT1, hTo, hbp, hBB, vwq, voq, hPq⟩ := hl
                  obtain ⟨gwq, cwq, hgw⟩ := ownB_slice hPq.wait
                  obtain ⟨goq, coq, hgo⟩ := row_slice hPq.opn
                  have hbq := hPq.box
                  rw [hgw, hgo] at hbq
                  have HSM := Lib.hid (fun W (hb : Below w5.heap.size w5 W) => same_any _ _ _ _ ts1 W (hT1.below hb) (hTo.below hb) (by have := HTL.out; omega) (fun t ht => by have := HAT.out t ht; omega))
                  have HDP := Lib.hid (fun W (hb : Below w5.heap.size w5 W) => depth_any w.heap.size _ _ _ _ _ go3 p1.opn.length co3 W ((hb.block _ hbp.lt).trans hbp))
                  have HDQ := Lib.hid (fun W (hb : Below w5.heap.size w5 W) => depth_any w1.heap.size _ _ _ _ _ goq p1.opn.length coq W ((hb.block _ hbq.lt).trans hbq))
                  have HLP := Lib.hid (fun W (hb : Below w5.heap.size w5 W) => left_any w.heap.size _ _ _ _ _ gw3 p1.wait.length cw3 W ((hb.block _ hbp.lt).trans hbp))
                  have HLQ := Lib.hid (fun W (hb : Below w5.heap.size w5 W) => left_any w1.heap.size _ _ _ _ _ gwq p1.wait.length cwq W ((hb.block _ hbq.lt).trans hbq))
                  have HBBH := Lib.hid hBB
                  have k1 : ((p1.opn.length : Int) == (p1.opn.length : Int)) = true := by simp
                  have k2 : ((p1.wait.length : Int) == (p1.wait.length : Int)) = true := by simp
                  subst hfe
                  have k3 : ((f5 : Int) == (f5 : Int)) = true := by simp
                  clear hT1 hTo hbp hBB hPq hgw hgo hbq
                  go_wp2_with (at_builtin; refine wpList_append_own_none rfl (.tmp 69) (.tmp 70) 25 rfl w3.heap.size 34 i0 4 Tryd.underlying25 HII.out.1 (.slice so n0 co) n5 cs5 rfl HO.out rfl ?_)
                  go_at_call 14
                  with_reducible refine (HLV.out _).mono ?_
                  rintro e w5 ⟨rfl, hB5⟩
                  go_wp2_with fail
                  go_at_call 16
                  with_reducible refine (HSM.out _ hB5).mono ?_
                  rintro e w6 ⟨rfl, hB6⟩
                  have hB56 := hB5.trans (hB6.mono hB5.size)
                  go_wp2_with fail
                  go_at_call 15
                  with_reducible refine (HDP.out _ hB56).mono ?_
                  rintro e w7 ⟨rfl, hw⟩
                  obtain rfl := hw.symm
                  go_wp2_with fail
                  go_at_call 15
                  with_reducible refine (HDQ.out _ hB56).mono ?_
                  rintro e w7 ⟨rfl, hw⟩
                  obtain rfl := hw.symm
                  go_wp2_with fail
                  go_at_call 17
                  with_reducible refine (HLP.out _ hB56).mono ?_
                  rintro e w7 ⟨rfl, hw⟩
                  obtain rfl := hw.symm
                  go_wp2_with fail
                  go_at_call 17
                  with_reducible refine (HLQ.out _ hB56).mono ?_
                  rintro e w7 ⟨rfl, hw⟩
                  obtain rfl := hw.symm
                  go_wp2_with fail
                  go_returns
                  exact ⟨rfl, HBBH.out.trans (hB56.mono HBBH.out.size)⟩
            · have hO : w5.ownsRow w3.heap.size 34 4 (.slice so n0 co) n5 cs5 := by obtain ⟨_, _, _, _, _, _, _, _, _, _, h3, _⟩ := HM.out; exact h3
              have HO := Lib.hid hO
              have hD : ds5.length = m5 * 4 ∧ (∀ j u, ds5[j]? = some u → w5.cell? ((⟨gl, 0, none⟩ : Addr).add j) = some u) ∧ (∀ u ∈ ds5, u.oneCell' = true) ∧ n5 + m5 ≤ 9000 ∧ w3.heap.size ≤ w5.heap.size := by
                obtain ⟨_, tq, tl, _, _, b3, h1, _, q1, q2, h3, h4, h5, h6, _, _, _, _, h11⟩ := HM.out
                refine ⟨h5.1, fun j u hj => ?_, tokCells_one h6, ?_, h11⟩
                · exact World.ownsRow.cells h5 (g := gl) rfl j u hj
                · have := runP_len3 (lf.take (m + d)) ps0 fit0
                  rw [h1, List.length_take, List.length_append] at this
                  have hmn : min (m + d) lf.length ≤ 3000 := by omega
                  omega
              have HD := Lib.hid hD
              clear hO hD
              by_cases hf : f5 = 0
              · subst hf
                have k0 : (((0 : Nat) : Int) != 0) = false := rfl
                go_wp2_with (at_builtin; refine wpList_append_own _ rfl (.tmp 69) (.tmp 70) 25 rfl w3.heap.size 34 i0 tokZero 4 64 Tryd.underlying25 HII.out.1 HII.out.2.1 HII.out.2.2.1 HII.out.2.2.2 rfl (by omega) (.slice so n0 co) n5 cs5 rfl HO.out ⟨gl, 0, none⟩ m5 cl ds5 rfl HD.out.1 HD.out.2.1 HD.out.2.2.1 (by have := HD.out.2.2.2.1; simp only [maxLen]; omega) (by have := HD.out.2.2.2.1; omega) HD.out.2.2.2.2 ?_; intro v8 w8 hown hg8 _; obtain ⟨sa8, sc8, rfl⟩ := row_slice hown)
                have HI2 := Lib.hid (HM.out.app (Nat.le_trans HAQ.out (Nat.le_of_lt HBO.out)) hown hg8)
                go_roundw
                case rel => exact ⟨i + 1, m + d, HNN.out, by omega, rfl, by go_num, by go_num, HI2.out⟩
                case measure => simp [intOf]; omega
              · have k0 : ((f5 : Int) != 0) = true := by unfold bne; rw [(beq_eq_false_iff_ne).2 (by omega)]; rfl
                have k4 : ((f5 : Int) == 0) = false := by rw [beq_eq_false_iff_ne]; omega
                by_cases hae : m + d < lf.length
                · have k5 : decide ((m : Int) + (d : Int) < (lf.length : Int)) = true := by simp; omega
                  go_wp2_with (at_builtin; refine wpList_append_own _ rfl (.tmp 69) (.tmp 70) 25 rfl w3.heap.size 34 i0 tokZero 4 64 Tryd.underlying25 HII.out.1 HII.out.2.1 HII.out.2.2.1 HII.out.2.2.2 rfl (by omega) (.slice so n0 co) n5 cs5 rfl HO.out ⟨gl, 0, none⟩ m5 cl ds5 rfl HD.out.1 HD.out.2.1 HD.out.2.2.1 (by have := HD.out.2.2.2.1; simp only [maxLen]; omega) (by have := HD.out.2.2.2.1; omega) HD.out.2.2.2.2 ?_; intro v8 w8 hown hg8 _; obtain ⟨sa8, sc8, rfl⟩ := row_slice hown; have HI2 := Lib.hid (HM.out.app (Nat.le_trans HAQ.out (Nat.le_of_lt HBO.out)) hown hg8); have HLA := Lib.hid (HI2.out.last HRUN.out HNN.out (.inr hf)))
                  have hl := HLA.out
                  obtain ⟨hfe, hT1, hTo, hbp, hBB, vwq, voq, hPq⟩ := hl
                  obtain ⟨gwq, cwq, hgw⟩ := ownB_slice hPq.wait
                  obtain ⟨goq, coq, hgo⟩ := row_slice hPq.opn
                  have hbq := hPq.box
                  rw [hgw, hgo] at hbq
                  have HSM := Lib.hid (fun W (hb : Below w8.heap.size w8 W) => same_any _ _ _ _ ts1 W (hT1.below hb) (hTo.below hb) (by have := HTL.out; omega) (fun t ht => by have := HAT.out t ht; omega))
                  have HDP := Lib.hid (fun W (hb : Below w8.heap.size w8 W) => depth_any w.heap.size _ _ _ _ _ go3 p1.opn.length co3 W ((hb.block _ hbp.lt).trans hbp))
                  have HDQ := Lib.hid (fun W (hb : Below w8.heap.size w8 W) => depth_any w1.heap.size _ _ _ _ _ goq p1.opn.length coq W ((hb.block _ hbq.lt).trans hbq))
                  have HLP := Lib.hid (fun W (hb : Below w8.heap.size w8 W) => left_any w.heap.size _ _ _ _ _ gw3 p1.wait.length cw3 W ((hb.block _ hbp.lt).trans hbp))
                  have HLQ := Lib.hid (fun W (hb : Below w8.heap.size w8 W) => left_any w1.heap.size _ _ _ _ _ gwq p1.wait.length cwq W ((hb.block _ hbq.lt).trans hbq))
                  have HBBH := Lib.hid hBB
                  have k1 : ((p1.opn.length : Int) == (p1.opn.length : Int)) = true := by simp
                  have k2 : ((p1.wait.length : Int) == (p1.wait.length : Int)) = true := by simp
                  subst hfe
                  have k3 : ((f5 : Int) == (f5 : Int)) = true := by simp
                  clear hT1 hTo hbp hBB hPq hgw hgo hbq
                  go_at_call 14
                  with_reducible refine (HLV.out _).mono ?_
                  rintro e w5 ⟨rfl, hB5⟩
                  go_wp2_with fail
                  go_at_call 16
                  with_reducible refine (HSM.out _ hB5).mono ?_
                  rintro e w6 ⟨rfl, hB6⟩
                  have hB56 := hB5.trans (hB6.mono hB5.size)
                  go_wp2_with fail
                  go_at_call 15
                  with_reducible refine (HDP.out _ hB56).mono ?_
                  rintro e w7 ⟨rfl, hw⟩
                  obtain rfl := hw.symm
                  go_wp2_with fail
                  go_at_call 15
                  with_reducible refine (HDQ.out _ hB56).mono ?_
                  rintro e w7 ⟨rfl, hw⟩
                  obtain rfl := hw.symm
                  go_wp2_with fail
                  go_at_call 17
                  with_reducible refine (HLP.out _ hB56).mono ?_
                  rintro e w7 ⟨rfl, hw⟩
                  obtain rfl := hw.symm
                  go_wp2_with fail
                  go_at_call 17
                  with_reducible refine (HLQ.out _ hB56).mono ?_
                  rintro e w7 ⟨rfl, hw⟩
                  obtain rfl := hw.symm
                  go_wp2_with fail
                  go_returns
                  exact ⟨rfl, HBBH.out.trans (hB56.mono HBBH.out.size)⟩
                · have k5 : decide ((m : Int) + (d : Int) < (lf.length : Int)) = false := by simp; omega
                  go_wp2_with (at_builtin; refine wpList_append_own _ rfl (.tmp 69) (.tmp 70) 25 rfl w3.heap.size 34 i0 tokZero 4 64 Tryd.underlying25 HII.out.1 HII.out.2.1 HII.out.2.2.1 HII.out.2.2.2 rfl (by omega) (.slice so n0 co) n5 cs5 rfl HO.out ⟨gl, 0, none⟩ m5 cl ds5 rfl HD.out.1 HD.out.2.1 HD.out.2.2.1 (by have := HD.out.2.2.2.1; simp only [maxLen]; omega) (by have := HD.out.2.2.2.1; omega) HD.out.2.2.2.2 ?_; intro v8 w8 hown hg8 _; obtain ⟨sa8, sc8, rfl⟩ := row_slice hown; have HI2 := Lib.hid (HM.out.app (Nat.le_trans HAQ.out (Nat.le_of_lt HBO.out)) hown hg8); have HLA := Lib.hid (HI2.out.last HRUN.out HNN.out (.inr hf)))
                  have hl := HLA.out
                  obtain ⟨hfe, hT1, hTo, hbp, hBB, vwq, voq, hPq⟩ := hl
                  obtain ⟨gwq, cwq, hgw⟩ := ownB_slice hPq.wait
                  obtain ⟨goq, coq, hgo⟩ := row_slice hPq.opn
                  have hbq := hPq.box
                  rw [hgw, hgo] at hbq
                  have HSM := Lib.hid (fun W (hb : Below w8.heap.size w8 W) => same_any _ _ _ _ ts1 W (hT1.below hb) (hTo.below hb) (by have := HTL.out; omega) (fun t ht => by have := HAT.out t ht; omega))
                  have HDP := Lib.hid (fun W (hb : Below w8.heap.size w8 W) => depth_any w.heap.size _ _ _ _ _ go3 p1.opn.length co3 W ((hb.block _ hbp.lt).trans hbp))
                  have HDQ := Lib.hid (fun W (hb : Below w8.heap.size w8 W) => depth_any w1.heap.size _ _ _ _ _ goq p1.opn.length coq W ((hb.block _ hbq.lt).trans hbq))
                  have HLP := Lib.hid (fun W (hb : Below w8.heap.size w8 W) => left_any w.heap.size _ _ _ _ _ gw3 p1.wait.length cw3 W ((hb.block _ hbp.lt).trans hbp))
                  have HLQ := Lib.hid (fun W (hb : Below w8.heap.size w8 W) => left_any w1.heap.size _ _ _ _ _ gwq p1.wait.length cwq W ((hb.block _ hbq.lt).trans hbq))
                  have HBBH := Lib.hid hBB
                  have k1 : ((p1.opn.length : Int) == (p1.opn.length : Int)) = true := by simp
                  have k2 : ((p1.wait.length : Int) == (p1.wait.length : Int)) = true := by simp
                  subst hfe
                  have k3 : ((f5 : Int) == (f5 : Int)) = true := by simp
                  clear hT1 hTo hbp hBB hPq hgw hgo hbq
                  go_at_call 14
                  with_reducible refine (HLV.out _).mono ?_
                  rintro e w5 ⟨rfl, hB5⟩
                  go_wp2_with fail
                  go_at_call 16
                  with_reducible refine (HSM.out _ hB5).mono ?_
                  rintro e w6 ⟨rfl, hB6⟩
                  have hB56 := hB5.trans (hB6.mono hB5.size)
                  go_wp2_with fail
                  go_at_call 15
                  with_reducible refine (HDP.out _ hB56).mono ?_
                  rintro e w7 ⟨rfl, hw⟩
                  obtain rfl := hw.symm
                  go_wp2_with fail
                  go_at_call 15
                  with_reducible refine (HDQ.out _ hB56).mono ?_
                  rintro e w7 ⟨rfl, hw⟩
                  obtain rfl := hw.symm
                  go_wp2_with fail
                  go_at_call 17
                  with_reducible refine (HLP.out _ hB56).mono ?_
                  rintro e w7 ⟨rfl, hw⟩
                  obtain rfl := hw.symm
                  go_wp2_with fail
                  go_at_call 17
                  with_reducible refine (HLQ.out _ hB56).mono ?_
                  rintro e w7 ⟨rfl, hw⟩
                  obtain rfl := hw.symm
                  go_wp2_with fail
                  go_returns
                  exact ⟨rfl, HBBH.out.trans (hB56.mono HBBH.out.size)⟩
          · have cr : decide ((lf.length : Int) - (m : Int) < (nn : Int)) = false := by simp; omega
            have hnn : m + nn ≤ lf.length := by omega
            clear hrem
            have hseg := seg_bytes g off lf.length ca m (m + nn) ((m : Int) + (nn : Int)) (by omega) (by omega) (by have := HCAP.out; omega) (by have := HCAP.out; omega)
            rw [Nat.add_sub_cancel_left] at hseg
            have HFE := Lib.hid (HC.out.feed nn g off (ca - m) HAQ.out (by have := HS1.out; omega) HBO.out hlen hnn hg HX.out)
            have HNN := Lib.hid hnn
            clear hnn
            go_wp2_with fail
            go_at_call 12
            with_reducible refine HFE.out.mono ?_
            rintro e w5 ⟨v5, f5, n5, m5, cs5, ds5, rfl, hM⟩
            have HM := Lib.hid hM
            clear hM
            obtain ⟨i0, hii, hz0, hz1, hz2⟩ := info_parts infoTok
            have HII := Lib.hid (And.intro hii (And.intro hz0 (And.intro hz1 hz2)))
            clear hii hz0 hz1 hz2
            have hv5 : v5 = .slice none 0 0 ∨ ∃ gl cl, v5 = .slice (some ⟨gl, 0, none⟩) m5 cl := by
              obtain ⟨_, _, _, _, _, b3, _, _, _, _, _, _, h5, _⟩ := HM.out
              rcases h5.2 with ⟨e1, _⟩ | ⟨gl, cap, cur, e1, _⟩
              · exact .inl e1
              · exact .inr ⟨gl, cap, e1⟩
            rcases hv5 with rfl | ⟨gl, cl, rfl⟩
            · have hO : w5.ownsRow w3.heap.size 34 4 (.slice so n0 co) n5 cs5 := by obtain ⟨_, _, _, _, _, _, _, _, _, _, h3, _⟩ := HM.out; exact h3
              have HO := Lib.hid hO
              have HI2 := Lib.hid HM.out.none
              clear hO
              by_cases hf : f5 = 0
              · subst hf
                have k0 : (((0 : Nat) : Int) != 0) = false := rfl
                go_wp2_with (at_builtin; refine wpList_append_own_none rfl (.tmp 69) (.tmp 70) 25 rfl w3.heap.size 34 i0 4 Tryd.underlying25 HII.out.1 (.slice so n0 co) n5 cs5 rfl HO.out rfl ?_)
                go_roundw
                case rel => exact ⟨i + 1, m + nn, HNN.out, by omega, rfl, by go_num, by go_num, HI2.out⟩
                case measure => simp [intOf]; omega
              · have k0 : ((f5 : Int) != 0) = true := by unfold bne; rw [(beq_eq_false_iff_ne).2 (by omega)]; rfl
                have k4 : ((f5 : Int) == 0) = false := by rw [beq_eq_false_iff_ne]; omega
                have hl := HI2.out.last HRUN.out HNN.out (.inr hf)
                by_cases hae : m + nn < lf.length
                · have k5 : decide ((m : Int) + (nn : Int) < (lf.length : Int)) = true := by simp; omega
                  obtain ⟨hfe, hT1, hTo, hbp, hBB, vwq, voq, hPq⟩ := hl
                  obtain ⟨gwq, cwq, hgw⟩ := ownB_slice hPq.wait
                  obtain ⟨goq, coq, hgo⟩ := row_slice hPq.opn
                  have hbq := hPq.box
                  rw [hgw, hgo] at hbq
                  have HSM := Lib.hid (fun W (hb : Below w5.heap.size w5 W) => same_any _ _ _ _ ts1 W (hT1.below hb) (hTo.below hb) (by have := HTL.out; omega) (fun t ht => by have := HAT.out t ht; omega))
                  have HDP := Lib.hid (fun W (hb : Below w5.heap.size w5 W) => depth_any w.heap.size _ _ _ _ _ go3 p1.opn.length co3 W ((hb.block _ hbp.lt).trans hbp))
                  have HDQ := Lib.hid (fun W (hb : Below w5.heap.size w5 W) => depth_any w1.heap.size _ _ _ _ _ goq p1.opn.length coq W ((hb.block _ hbq.lt).trans hbq))
                  have HLP := Lib.hid (fun W (hb : Below w5.heap.size w5 W) => left_any w.heap.size _ _ _ _ _ gw3 p1.wait.length cw3 W ((hb.block _ hbp.lt).trans hbp))
                  have HLQ := Lib.hid (fun W (hb : Below w5.heap.size w5 W) => left_any w1.heap.size _ _ _ _ _ gwq p1.wait.length cwq W ((hb.block _ hbq.lt).trans hbq))
                  have HBBH := Lib.hid hBB
                  have k1 : ((p1.opn.length : Int) == (p1.opn.length : Int)) = true := by simp
                  have k2 : ((p1.wait.length : Int) == (p1.wait.length : Int)) = true := by simp
                  subst hfe
                  have k3 : ((f5 : Int) == (f5 : Int)) = true := by simp
                  clear hT1 hTo hbp hBB hPq hgw hgo hbq
                  go_wp2_with (at_builtin; refine wpList_append_own_none rfl (.tmp 69) (.tmp 70) 25 rfl w3.heap.size 34 i0 4 Tryd.underlying25 HII.out.1 (.slice so n0 co) n5 cs5 rfl HO.out rfl ?_)
                  go_at_call 14
                  with_reducible refine (HLV.out _).mono ?_
                  rintro e w5 ⟨rfl, hB5⟩
                  go_wp2_with fail
                  go_at_call 16
                  with_reducible refine (HSM.out _ hB5).mono ?_
                  rintro e w6 ⟨rfl, hB6⟩
                  have hB56 := hB5.trans (hB6.mono hB5.size)
                  go_wp2_with fail
                  go_at_call 15
                  with_reducible refine (HDP.out _ hB56).mono ?_
                  rintro e w7 ⟨rfl, hw⟩
                  obtain rfl := hw.symm
                  go_wp2_with fail
                  go_at_call 15
                  with_reducible refine (HDQ.out _ hB56).mono ?_
                  rintro e w7 ⟨rfl, hw⟩
                  obtain rfl := hw.symm
                  go_wp2_with fail
                  go_at_call 17
                  with_reducible refine (HLP.out _ hB56).mono ?_
                  rintro e w7 ⟨rfl, hw⟩
                  obtain rfl := hw.symm
                  go_wp2_with fail
                  go_at_call 17
                  with_reducible refine (HLQ.out _ hB56).mono ?_
                  rintro e w7 ⟨rfl, hw⟩
                  obtain rfl := hw.symm
                  go_wp2_with fail
                  go_returns
                  exact ⟨rfl, HBBH.out.trans (hB56.mono HBBH.out.size)⟩
                · have k5 : decide ((m : Int) + (nn : Int) < (lf.length : Int)) = false := by simp; omega
                  obtain ⟨hfe, hT1, hTo, hbp, hBB, vwq, voq, hPq⟩ := hl
                  obtain ⟨gwq, cwq, hgw⟩ := ownB_slice hPq.wait
                  obtain ⟨goq, coq, hgo⟩ := row_slice hPq.opn
                  have hbq := hPq.box
                  rw [hgw, hgo] at hbq
                  have HSM := Lib.hid (fun W (hb : Below w5.heap.size w5 W) => same_any _ _ _ _ ts1 W (hT1.below hb) (hTo.below hb) (by have := HTL.out; omega) (fun t ht => by have := HAT.out t ht; omega))
                  have HDP := Lib.hid (fun W (hb : Below w5.heap.size w5 W) => depth_any w.heap.size _ _ _ _ _ go3 p1.opn.length co3 W ((hb.block _ hbp.lt).trans hbp))
                  have HDQ := Lib.hid (fun W (hb : Below w5.heap.size w5 W) => depth_any w1.heap.size _ _ _ _ _ goq p1.opn.length coq W ((hb.block _ hbq.lt).trans hbq))
                  have HLP := Lib.hid (fun W (hb : Below w5.heap.size w5 W) => left_any w.heap.size _ _ _ _ _ gw3 p1.wait.length cw3 W ((hb.block _ hbp.lt).trans hbp))
                  have HLQ := Lib.hid (fun W (hb : Below w5.heap.size w5 W) => left_any w1.heap.size _ _ _ _ _ gwq p1.wait.length cwq W ((hb.block _ hbq.lt).trans hbq))
                  have HBBH := Lib.hid hBB
                  have k1 : ((p1.opn.length : Int) == (p1.opn.length : Int)) = true := by simp
                  have k2 : ((p1.wait.length : Int) == (p1.wait.length : Int)) = true := by simp
                  subst hfe
                  have k3 : ((f5 : Int) == (f5 : Int)) = true := by simp
                  clear hT1 hTo hbp hBB hPq hgw hgo hbq
                  go_wp2_with (at_builtin; refine wpList_append_own_none rfl (.tmp 69) (.tmp 70) 25 rfl w3.heap.size 34 i0 4 Tryd.underlying25 HII.out.1 (.slice so n0 co) n5 cs5 rfl HO.out rfl ?_)
                  go_at_call 14
                  with_reducible refine (HLV.out _).mono ?_
                  rintro e w5 ⟨rfl, hB5⟩
                  go_wp2_with fail
                  go_at_call 16
                  with_reducible refine (HSM.out _ hB5).mono ?_
                  rintro e w6 ⟨rfl, hB6⟩
                  have hB56 := hB5.trans (hB6.mono hB5.size)
                  go_wp2_with fail
                  go_at_call 15
                  with_reducible refine (HDP.out _ hB56).mono ?_
                  rintro e w7 ⟨rfl, hw⟩
                  obtain rfl := hw.symm
                  go_wp2_with fail
                  go_at_call 15
                  with_reducible refine (HDQ.out _ hB56).mono ?_
                  rintro e w7 ⟨rfl, hw⟩
                  obtain rfl := hw.symm
                  go_wp2_with fail
                  go_at_call 17
                  with_reducible refine (HLP.out _ hB56).mono ?_
                  rintro e w7 ⟨rfl, hw⟩
                  obtain rfl := hw.symm
                  go_wp2_with fail
                  go_at_call 17
                  with_reducible refine (HLQ.out _ hB56).mono ?_
                  rintro e w7 ⟨rfl, hw⟩
                  obtain rfl := hw.symm
                  go_wp2_with fail
                  go_returns
                  exact ⟨rfl, HBBH.out.trans (hB56.mono HBBH.out.size)⟩
            · have hO : w5.ownsRow w3.heap.size 34 4 (.slice so n0 co) n5 cs5 := by obtain ⟨_, _, _, _, _, _, _, _, _, _, h3, _⟩ := HM.out; exact h3
              have HO := Lib.hid hO
              have hD : ds5.length = m5 * 4 ∧ (∀ j u, ds5[j]? = some u → w5.cell? ((⟨gl, 0, none⟩ : Addr).add j) = some u) ∧ (∀ u ∈ ds5, u.oneCell' = true) ∧ n5 + m5 ≤ 9000 ∧ w3.heap.size ≤ w5.heap.size := by
                obtain ⟨_, tq, tl, _, _, b3, h1, _, q1, q2, h3, h4, h5, h6, _, _, _, _, h11⟩ := HM.out
                refine ⟨h5.1, fun j u hj => ?_, tokCells_one h6, ?_, h11⟩
                · exact World.ownsRow.cells h5 (g := gl) rfl j u hj
                · have := runP_len3 (lf.take (m + nn)) ps0 fit0
                  rw [h1, List.length_take, List.length_append] at this
                  have hmn : min (m + nn) lf.length ≤ 3000 := by omega
                  omega
              have HD := Lib.hid hD
              clear hO hD
              by_cases hf : f5 = 0
              · subst hf
                have k0 : (((0 : Nat) : Int) != 0) = false := rfl
                go_wp2_with (at_builtin; refine wpList_append_own _ rfl (.tmp 69) (.tmp 70) 25 rfl w3.heap.size 34 i0 tokZero 4 64 Tryd.underlying25 HII.out.1 HII.out.2.1 HII.out.2.2.1 HII.out.2.2.2 rfl (by omega) (.slice so n0 co) n5 cs5 rfl HO.out ⟨gl, 0, none⟩ m5 cl ds5 rfl HD.out.1 HD.out.2.1 HD.out.2.2.1 (by have := HD.out.2.2.2.1; simp only [maxLen]; omega) (by have := HD.out.2.2.2.1; omega) HD.out.2.2.2.2 ?_; intro v8 w8 hown hg8 _; obtain ⟨sa8, sc8, rfl⟩ := row_slice hown)
                have HI2 := Lib.hid (HM.out.app (Nat.le_trans HAQ.out (Nat.le_of_lt HBO.out)) hown hg8)
                go_roundw
                case rel => exact ⟨i + 1, m + nn, HNN.out, by omega, rfl, by go_num, by go_num, HI2.out⟩
                case measure => simp [intOf]; omega
              · have k0 : ((f5 : Int) != 0) = true := by unfold bne; rw [(beq_eq_false_iff_ne).2 (by omega)]; rfl
                have k4 : ((f5 : Int) == 0) = false := by rw [beq_eq_false_iff_ne]; omega
                by_cases hae : m + nn < lf.length
                · have k5 : decide ((m : Int) + (nn : Int) < (lf.length : Int)) = true := by simp; omega
                  go_wp2_with (at_builtin; refine wpList_append_own _ rfl (.tmp 69) (.tmp 70) 25 rfl w3.heap.size 34 i0 tokZero 4 64 Tryd.underlying25 HII.out.1 HII.out.2.1 HII.out.2.2.1 HII.out.2.2.2 rfl (by omega) (.slice so n0 co) n5 cs5 rfl HO.out ⟨gl, 0, none⟩ m5 cl ds5 rfl HD.out.1 HD.out.2.1 HD.out.2.2.1 (by have := HD.out.2.2.2.1; simp only [maxLen]; omega) (by have := HD.out.2.2.2.1; omega) HD.out.2.2.2.2 ?_; intro v8 w8 hown hg8 _; obtain ⟨sa8, sc8, rfl⟩ := row_slice hown; have HI2 := Lib.hid (HM.out.app (Nat.le_trans HAQ.out (Nat.le_of_lt HBO.out)) hown hg8); have HLA := Lib.hid (HI2.out.last HRUN.out HNN.out (.inr hf)))
                  have hl := HLA.out
                  obtain ⟨hfe, hT1, hTo, hbp, hBB, vwq, voq, hPq⟩ := hl
                  obtain ⟨gwq, cwq, hgw⟩ := ownB_slice hPq.wait
                  obtain ⟨goq, coq, hgo⟩ := row_slice hPq.opn
                  have hbq := hPq.box
                  rw [hgw, hgo] at hbq
                  have HSM := Lib.hid (fun W (hb : Below w8.heap.size w8 W) => same_any _ _ _ _ ts1 W (hT1.below hb) (hTo.below hb) (by have := HTL.out; omega) (fun t ht => by have := HAT.out t ht; omega))
                  have HDP := Lib.hid (fun W (hb : Below w8.heap.size w8 W) => depth_any w.heap.size _ _ _ _ _ go3 p1.opn.length co3 W ((hb.block _ hbp.lt).trans hbp))
                  have HDQ := Lib.hid (fun W (hb : Below w8.heap.size w8 W) => depth_any w1.heap.size _ _ _ _ _ goq p1.opn.length coq W ((hb.block _ hbq.lt).trans hbq))
                  have HLP := Lib.hid (fun W (hb : Below w8.heap.size w8 W) => left_any w.heap.size _ _ _ _ _ gw3 p1.wait.length cw3 W ((hb.block _ hbp.lt).trans hbp))
                  have HLQ := Lib.hid (fun W (hb : Below w8.heap.size w8 W) => left_any w1.heap.size _ _ _ _ _ gwq p1.wait.length cwq W ((hb.block _ hbq.lt).trans hbq))
                  have HBBH := Lib.hid hBB
                  have k1 : ((p1.opn.length : Int) == (p1.opn.length : Int)) = true := by simp
                  have k2 : ((p1.wait.length : Int) == (p1.wait.length : Int)) = true := by simp
                  subst hfe
                  have k3 : ((f5 : Int) == (f5 : Int)) = true := by simp
                  clear hT1 hTo hbp hBB hPq hgw hgo hbq
                  go_at_call 14
                  with_reducible refine (HLV.out _).mono ?_
                  rintro e w5 ⟨rfl, hB5⟩
                  go_wp2_with fail
                  go_at_call 16
                  with_reducible refine (HSM.out _ hB5).mono ?_
                  rintro e w6 ⟨rfl, hB6⟩
                  have hB56 := hB5.trans (hB6.mono hB5.size)
                  go_wp2_with fail
                  go_at_call 15
                  with_reducible refine (HDP.out _ hB56).mono ?_
                  rintro e w7 ⟨rfl, hw⟩
                  obtain rfl := hw.symm
                  go_wp2_with fail
                  go_at_call 15
                  with_reducible refine (HDQ.out _ hB56).mono ?_
                  rintro e w7 ⟨rfl, hw⟩
                  obtain rfl := hw.symm
                  go_wp2_with fail
                  go_at_call 17
                  with_reducible refine (HLP.out _ hB56).mono ?_
                  rintro e w7 ⟨rfl, hw⟩
                  obtain rfl := hw.symm
                  go_wp2_with fail
                  go_at_call 17
                  with_reducible refine (HLQ.out _ hB56).mono ?_
                  rintro e w7 ⟨rfl, hw⟩
                  obtain rfl := hw.symm
                  go_wp2_with fail
                  go_returns
                  exact ⟨rfl, HBBH.out.trans (hB56.mono HBBH.out.size)⟩
                · have k5 : decide ((m : Int) + (nn : Int) < (lf.length : Int)) = false := by simp; omega
                  go_wp2_with (at_builtin; refine wpList_append_own _ rfl (.tmp 69) (.tmp 70) 25 rfl w3.heap.size 34 i0 tokZero 4 64 Tryd.underlying25 HII.out.1 HII.out.2.1 HII.out.2.2.1 HII.out.2.2.2 rfl (by omega) (.slice so n0 co) n5 cs5 rfl HO.out ⟨gl, 0, none⟩ m5 cl ds5 rfl HD.out.1 HD.out.2.1 HD.out.2.2.1 (by have := HD.out.2.2.2.1; simp only [maxLen]; omega) (by have := HD.out.2.2.2.1; omega) HD.out.2.2.2.2 ?_; intro v8 w8 hown hg8 _; obtain ⟨sa8, sc8, rfl⟩ := row_slice hown; have HI2 := Lib.hid (HM.out.app (Nat.le_trans HAQ.out (Nat.le_of_lt HBO.out)) hown hg8); have HLA := Lib.hid (HI2.out.last HRUN.out HNN.out (.inr hf)))
                  have hl := HLA.out
                  obtain ⟨hfe, hT1, hTo, hbp, hBB, vwq, voq, hPq⟩ := hl
                  obtain ⟨gwq, cwq, hgw⟩ := ownB_slice hPq.wait
                  obtain ⟨goq, coq, hgo⟩ := row_slice hPq.opn
                  have hbq := hPq.box
                  rw [hgw, hgo] at hbq
                  have HSM := Lib.hid (fun W (hb : Below w8.heap.size w8 W) => same_any _ _ _ _ ts1 W (hT1.below hb) (hTo.below hb) (by have := HTL.out; omega) (fun t ht => by have := HAT.out t ht; omega))
                  have HDP := Lib.hid (fun W (hb : Below w8.heap.size w8 W) => depth_any w.heap.size _ _ _ _ _ go3 p1.opn.length co3 W ((hb.block _ hbp.lt).trans hbp))
                  have HDQ := Lib.hid (fun W (hb : Below w8.heap.size w8 W) => depth_any w1.heap.size _ _ _ _ _ goq p1.opn.length coq W ((hb.block _ hbq.lt).trans hbq))
                  have HLP := Lib.hid (fun W (hb : Below w8.heap.size w8 W) => left_any w.heap.size _ _ _ _ _ gw3 p1.wait.length cw3 W ((hb.block _ hbp.lt).trans hbp))
                  have HLQ := Lib.hid (fun W (hb : Below w8.heap.size w8 W) => left_any w1.heap.size _ _ _ _ _ gwq p1.wait.length cwq W ((hb.block _ hbq.lt).trans hbq))
                  have HBBH := Lib.hid hBB
                  have k1 : ((p1.opn.length : Int) == (p1.opn.length : Int)) = true := by simp
                  have k2 : ((p1.wait.length : Int) == (p1.wait.length : Int)) = true := by simp
                  subst hfe
                  have k3 : ((f5 : Int) == (f5 : Int)) = true := by simp
                  clear hT1 hTo hbp hBB hPq hgw hgo hbq
                  go_at_call 14
                  with_reducible refine (HLV.out _).mono ?_
                  rintro e w5 ⟨rfl, hB5⟩
                  go_wp2_with fail
                  go_at_call 16
                  with_reducible refine (HSM.out _ hB5).mono ?_
                  rintro e w6 ⟨rfl, hB6⟩
                  have hB56 := hB5.trans (hB6.mono hB5.size)
                  go_wp2_with fail
                  go_at_call 15
                  with_reducible refine (HDP.out _ hB56).mono ?_
                  rintro e w7 ⟨rfl, hw⟩
                  obtain rfl := hw.symm
                  go_wp2_with fail
                  go_at_call 15
                  with_reducible refine (HDQ.out _ hB56).mono ?_
                  rintro e w7 ⟨rfl, hw⟩
                  obtain rfl := hw.symm
                  go_wp2_with fail
                  go_at_call 17
                  with_reducible refine (HLP.out _ hB56).mono ?_
                  rintro e w7 ⟨rfl, hw⟩
                  obtain rfl := hw.symm
                  go_wp2_with fail
                  go_at_call 17
                  with_reducible refine (HLQ.out _ hB56).mono ?_
                  rintro e w7 ⟨rfl, hw⟩
                  obtain rfl := hw.symm
                  go_wp2_with fail
                  go_returns
                  exact ⟨rfl, HBBH.out.trans (hB56.mono HBBH.out.size)⟩
      · have c40 : decide ((i : Int) < 4000) = false := by simp; omega
        go_wp2_with fail
        go_at_call 14
        with_reducible refine (HLV.out _).mono ?_
        rintro e w5 ⟨rfl, hB5⟩
        go_wp2_with fail
        go_returns
        obtain ⟨_, _, _, _, _, _, _, _, _, _, _, _, hBB, _⟩ := HC.out
        exact ⟨rfl, hBB.trans (hB5.mono hBB.size)⟩
    · have cm : decide ((m : Int) < (lf.length : Int)) = false := by simp; omega
      have hl := HC.out.last HRUN.out hm (.inl (by omega))
      clear HC
      obtain ⟨hfe, hT1, hTo, hbp, hBB, vwq, voq, hPq⟩ := hl
      obtain ⟨gwq, cwq, hgw⟩ := ownB_slice hPq.wait
      obtain ⟨goq, coq, hgo⟩ := row_slice hPq.opn
      have hbq := hPq.box
      rw [hgw, hgo] at hbq
      have HSM := Lib.hid (fun W (hb : Below wr.heap.size wr W) => same_any _ _ _ _ ts1 W (hT1.below hb) (hTo.below hb) (by have := HTL.out; omega) (fun t ht => by have := HAT.out t ht; omega))
      have HDP := Lib.hid (fun W (hb : Below wr.heap.size wr W) => depth_any w.heap.size _ _ _ _ _ go3 p1.opn.length co3 W ((hb.block _ hbp.lt).trans hbp))
      have HDQ := Lib.hid (fun W (hb : Below wr.heap.size wr W) => depth_any w1.heap.size _ _ _ _ _ goq p1.opn.length coq W ((hb.block _ hbq.lt).trans hbq))
      have HLP := Lib.hid (fun W (hb : Below wr.heap.size wr W) => left_any w.heap.size _ _ _ _ _ gw3 p1.wait.length cw3 W ((hb.block _ hbp.lt).trans hbp))
      have HLQ := Lib.hid (fun W (hb : Below wr.heap.size wr W) => left_any w1.heap.size _ _ _ _ _ gwq p1.wait.length cwq W ((hb.block _ hbq.lt).trans hbq))
      have HBBH := Lib.hid hBB
      have k1 : ((p1.opn.length : Int) == (p1.opn.length : Int)) = true := by simp
      have k2 : ((p1.wait.length : Int) == (p1.wait.length : Int)) = true := by simp
      subst hfe
      have k3 : (((0 : Nat) : Int) == 0) = true := rfl
      clear hT1 hTo hbp hBB hPq hgw hgo hbq
      go_wp2_with fail
      go_at_call 14
      with_reducible refine (HLV.out _).mono ?_
      rintro e w5 ⟨rfl, hB5⟩
      go_wp2_with fail
      go_at_call 16
      with_reducible refine (HSM.out _ hB5).mono ?_
      rintro e w6 ⟨rfl, hB6⟩
      have hB56 := hB5.trans (hB6.mono hB5.size)
      go_wp2_with fail
      go_at_call 15
      with_reducible refine (HDP.out _ hB56).mono ?_
      rintro e w7 ⟨rfl, hw⟩
      obtain rfl := hw.symm
      go_wp2_with fail
      go_at_call 15
      with_reducible refine (HDQ.out _ hB56).mono ?_
      rintro e w7 ⟨rfl, hw⟩
      obtain rfl := hw.symm
      go_wp2_with fail
      go_at_call 17
      with_reducible refine (HLP.out _ hB56).mono ?_
      rintro e w7 ⟨rfl, hw⟩
      obtain rfl := hw.symm
      go_wp2_with fail
      go_at_call 17
      with_reducible refine (HLQ.out _ hB56).mono ?_
      rintro e w7 ⟨rfl, hw⟩
      obtain rfl := hw.symm
      go_wp2_with fail
      go_returns
      exact ⟨rfl, HBBH.out.trans (hB56.mono HBBH.out.size)⟩
end Go.Proofs.YtppgjkjdddanbaaDoor
