/- node.Publish. Written by gen_n20.py. -/
import Derived.Test.YtpjaopcgoaannaaN20
namespace Go.Proofs.Ytpjaopcgoaannaa
open Go.RowKit Go.Lib
open Hb
theorem item_one1 (x : PItem) : ∀ u ∈ x.enc, u.oneCell' = true := by
  intro u hu
  exact PItem.one [x] u (by simpa using hu)

set_option maxRecDepth 100000 in
set_option maxHeartbeats 8000000 in
theorem publish_any (v : Value) (n : PNode) (by_ item body : ByteArray) (w : World) (hv : NodeV w v n) (hbd : Bd n) (hsi : Sm item) (hsb : Sm body) :
    Calls Try.prog 10 #[v, .string by_, .string item, .string body] w fun e w' => ∃ v', e = .returned (.tuple #[v', .int .i64 (publishN pr n by_ item body).2]) ∧ NodeV w' v' (publishN pr n by_ item body).1 ∧ Below w.heap.size w w' := by
  have hv0 := hv
  obtain ⟨A, S, I, rfl, hA, hS, hI⟩ := hv
  obtain ⟨aA, cA, rfl⟩ := hA.form
  obtain ⟨aS, cS, rfl⟩ := hS.form
  obtain ⟨aI, cI, rfl⟩ := hI.form
  obtain ⟨W0, hW0, hB0, hr1, hr2, hs⟩ := two w 28 28 [.string n.name, .bool n.coll, .int .u8 n.access, .int .i64 n.max, .slice aA n.affs.length cA, .slice aS n.subs.length cS, .slice aI n.items.length cI, .string n.parent] [.string ⟨#[]⟩, .bool false, .int .u8 0, .int .i64 0, .slice none 0 0, .slice none 0 0, .slice none 0 0, .string ⟨#[]⟩]
  have HPu : Hid (Calls Try.prog 23 #[.agg #[.string n.name, .bool n.coll, .int .u8 n.access, .int .i64 n.max, .slice aA n.affs.length cA, .slice aS n.subs.length cS, .slice aI n.items.length cI, .string n.parent], .string by_, .int .u8 4] W0 fun e w' => e = .returned (.int .i64 (publisherN pr n by_ 4)) ∧ Below W0.heap.size W0 w') := publisher_any _ n by_ 4 W0 (hv0.below hB0) hbd
  have HNa : Hid (∀ W, Calls Try.prog 24 #[.string item] W fun e w' => e = .returned (.bool (nameB item)) ∧ Below W.heap.size W w') := fun W => name_any _ W hsi
  have HBo : Hid (∀ W, Calls Try.prog 25 #[.string body] W fun e w' => e = .returned (.bool (bodyB body)) ∧ Below W.heap.size W w') := fun W => body_any _ W hsb
  have HOn : Hid (∀ W, Below w.heap.size w W → Calls Try.prog 21 #[.agg #[.string n.name, .bool n.coll, .int .u8 n.access, .int .i64 n.max, .slice aA n.affs.length cA, .slice aS n.subs.length cS, .slice aI n.items.length cI, .string n.parent]] W fun e w' => ∃ v', e = .returned v' ∧ NodeO w' W.heap.size v' n ∧ Below W.heap.size W w') := fun W hW => own_any _ n W (hv0.below hW) (by have := hbd.affs; omega) (by have := hbd.subs; omega) (by have := hbd.items; omega)
  have c0 := hr1.at 0 _ rfl
  have c1 := hr1.at 1 _ rfl
  have c2 := hr1.at 2 _ rfl
  have c3 := hr1.at 3 _ rfl
  have c4 := hr1.at 4 _ rfl
  have c5 := hr1.at 5 _ rfl
  have c6 := hr1.at 6 _ rfl
  have c7 := hr1.at 7 _ rfl
  have HW := Lib.hid hW0
  have HB := Lib.hid hB0
  have HR := Lib.hid hr1
  have HR2 := Lib.hid hr2
  have HD := Lib.hid hbd
  have mixed : Try.prog.follows .mixedOrders = true := by kernel_rfl
  clear hW0 hB0 hr1 hr2 hs hv0 hA hS hI hbd
  go_enter Try.func10, Try.ntmps10
  go_upto_region 1 with fail
  rw [HW.out]
  clear HW
  go_wp2_with fail
  (with_reducible refine HPu.out.mono ?_)
  rintro e w1 ⟨rfl, hB1⟩
  have HB1 := Lib.hid (HB.out.trans (hB1.mono HB.out.size))
  have HR1 := Lib.hid (HR.out.below hB1)
  have HR21 := Lib.hid (HR2.out.below hB1)
  clear hB1 HPu HR HR2 HB
  by_cases ho : publisherN pr n by_ 4 = 0
  · have HC0 : Hid (publishN pr n by_ item body = if !nameB item || !bodyB body then (noNode, 1) else ({ n with items := newestL (dropL PItem.id item n.items ++ [⟨item, by_, body⟩]) n.max }, 0)) := by show _ = _; unfold publishN; rw [if_neg (by rw [ho]; decide)]; rfl
    have hrt := ((publisher_no (p := pr) n by_ 4).1 ho).1
    have hrp := (right_iff pr n).1 hrt
    have hmx : 0 ≤ n.max ∧ n.max ≤ 1000 := ⟨hrp.max0, by have := hrp.head; unfold headN at this; simp only [Bool.and_eq_true, decide_eq_true_eq] at this; have h1 := this.1.2; split at h1 <;> omega⟩
    have HMX := Lib.hid hmx
    rw [ho]
    clear ho hrt hrp hmx
    go_wp2_with fail
    (with_reducible refine (HNa.out w1).mono ?_)
    rintro e w2 ⟨rfl, hB2⟩
    have HB2 := Lib.hid (HB1.out.trans (hB2.mono HB1.out.size))
    have HR2 := Lib.hid (HR1.out.below hB2)
    have HR22 := Lib.hid (HR21.out.below hB2)
    cases hnm : nameB item with
    | false =>
      have HC : Hid (publishN pr n by_ item body = (noNode, 1)) := by show _ = _; rw [HC0.out, hnm]; rfl
      clear HC0 hnm
      go_wp2_with fail
      (with_reducible refine (refused_any 1 w2).mono ?_)
      rintro e wr ⟨vr, rfl, hvr, hBr⟩
      obtain ⟨Ar, Sr, Ir, rfl, hAr, hSr, hIr⟩ := hvr
      have HVr := Lib.hid (And.intro hAr (And.intro hSr hIr))
      have HBr := Lib.hid (HB2.out.trans (hBr.mono HB2.out.size))
      obtain ⟨wq, hst, hrq, hgq, hsq⟩ := run_store_row (P := Try.prog) (HR22.out.below hBr) 28 [.string noNode.name, .bool noNode.coll, .int .u8 noNode.access, .int .i64 noNode.max, Ar, Sr, Ir, .string noNode.parent] (sizeNode wr) rfl rfl (node_one _ _ _ _ _ _ _ _ hAr.one hSr.one hIr.one)
      have HGq := Lib.hid hgq
      have HST := Lib.hid hst
      have r0 := hrq.at 0 _ rfl
      have r1 := hrq.at 1 _ rfl
      have r2 := hrq.at 2 _ rfl
      have r3 := hrq.at 3 _ rfl
      have r4 := hrq.at 4 _ rfl
      have r5 := hrq.at 5 _ rfl
      have r6 := hrq.at 6 _ rfl
      have r7 := hrq.at 7 _ rfl
      clear hst hrq hgq hsq hAr hSr hIr hBr
      go_wp2_with (refine wpList_store_run _ rfl 28 _ _ rfl _ _ rfl rfl HST.out ?_)
      refine bodyPost_ret (by simp [results, Try.results10, go_sem, r0, r1, r2, r3, r4, r5, r6, r7]; try rfl) rfl ?_
      exact ⟨_, by rw [HC.out], by rw [HC.out]; exact ⟨Ar, Sr, Ir, rfl, HVr.out.1.empty, HVr.out.2.1.empty, HVr.out.2.2.empty⟩, below_gone HBr.out HGq.out HBr.out.size (Nat.le_succ _)⟩
    | true =>
    go_wp2_with fail
    (with_reducible refine (HBo.out w2).mono ?_)
    rintro e w1' ⟨rfl, hB3⟩
    have HB3' := Lib.hid (HB2.out.trans (hB3.mono HB2.out.size))
    have HR3' := Lib.hid (HR2.out.below hB3)
    have HR23' := Lib.hid (HR22.out.below hB3)
    clear HR2 HR22 HB2 hB2 hB3
    cases hbo : bodyB body with
    | false =>
      have HC : Hid (publishN pr n by_ item body = (noNode, 1)) := by show _ = _; rw [HC0.out, hnm, hbo]; rfl
      clear HC0 hnm hbo
      go_wp2_with fail
      (with_reducible refine (refused_any 1 w1').mono ?_)
      rintro e wr ⟨vr, rfl, hvr, hBr⟩
      obtain ⟨Ar, Sr, Ir, rfl, hAr, hSr, hIr⟩ := hvr
      have HVr := Lib.hid (And.intro hAr (And.intro hSr hIr))
      have HBr := Lib.hid (HB3'.out.trans (hBr.mono HB3'.out.size))
      obtain ⟨wq, hst, hrq, hgq, hsq⟩ := run_store_row (P := Try.prog) (HR23'.out.below hBr) 28 [.string noNode.name, .bool noNode.coll, .int .u8 noNode.access, .int .i64 noNode.max, Ar, Sr, Ir, .string noNode.parent] (sizeNode wr) rfl rfl (node_one _ _ _ _ _ _ _ _ hAr.one hSr.one hIr.one)
      have HGq := Lib.hid hgq
      have HST := Lib.hid hst
      have r0 := hrq.at 0 _ rfl
      have r1 := hrq.at 1 _ rfl
      have r2 := hrq.at 2 _ rfl
      have r3 := hrq.at 3 _ rfl
      have r4 := hrq.at 4 _ rfl
      have r5 := hrq.at 5 _ rfl
      have r6 := hrq.at 6 _ rfl
      have r7 := hrq.at 7 _ rfl
      clear hst hrq hgq hsq hAr hSr hIr hBr
      go_wp2_with (refine wpList_store_run _ rfl 28 _ _ rfl _ _ rfl rfl HST.out ?_)
      refine bodyPost_ret (by simp [results, Try.results10, go_sem, r0, r1, r2, r3, r4, r5, r6, r7]; try rfl) rfl ?_
      exact ⟨_, by rw [HC.out], by rw [HC.out]; exact ⟨Ar, Sr, Ir, rfl, HVr.out.1.empty, HVr.out.2.1.empty, HVr.out.2.2.empty⟩, below_gone HBr.out HGq.out HBr.out.size (Nat.le_succ _)⟩
    | true =>
    have HC : Hid (publishN pr n by_ item body = ({ n with items := newestL (dropL PItem.id item n.items ++ [⟨item, by_, body⟩]) n.max }, 0)) := by show _ = _; rw [HC0.out, hnm, hbo]; rfl
    have hil : n.items.length ≤ 1000 := HD.out.items
    have hdl := dropL_length (of := PItem.id) item n.items
    clear HC0 hnm hbo HB1 HR1 HR21
    have HB1 := HB3'
    have HR1 := HR3'
    have HR21 := HR23'
    have d0 := HR1.out.at 0 _ rfl
    have d1 := HR1.out.at 1 _ rfl
    have d2 := HR1.out.at 2 _ rfl
    have d3 := HR1.out.at 3 _ rfl
    have d4 := HR1.out.at 4 _ rfl
    have d5 := HR1.out.at 5 _ rfl
    have d6 := HR1.out.at 6 _ rfl
    have d7 := HR1.out.at 7 _ rfl
    clear HB3' HR3' HR23'
    go_wp2_with fail
    (with_reducible refine (HOn.out w1' HB1.out).mono ?_)
    rintro e w2 ⟨v2, rfl, hv2, hB2⟩
    obtain ⟨A2, S2, I2, rfl, hA2, hS2, hI2⟩ := hv2
    have HB2 := Lib.hid (HB1.out.trans (hB2.mono HB1.out.size))
    have HRb := Lib.hid (HR1.out.below hB2)
    have HRr := Lib.hid (HR21.out.below hB2)
    have hA2 := hA2.mono HB1.out.size
    have hS2 := hS2.mono HB1.out.size
    have hI2 := hI2.mono HB1.out.size
    obtain ⟨qA, kA, rfl⟩ := row_slice hA2
    obtain ⟨qS, kS, rfl⟩ := row_slice hS2
    obtain ⟨qI, kI, rfl⟩ := row_slice hI2
    have nAb := hA2.ne HRb.out (by decide)
    have nSb := hS2.ne HRb.out (by decide)
    have nIb := hI2.ne HRb.out (by decide)
    have nAr := hA2.ne HRr.out (by decide)
    have nSr := hS2.ne HRr.out (by decide)
    have nIr := hI2.ne HRr.out (by decide)
    obtain ⟨w3, hst3, hr3, hg3, hs3⟩ := run_store_row (P := Try.prog) HRb.out 28 [.string n.name, .bool n.coll, .int .u8 n.access, .int .i64 n.max, .slice qA n.affs.length kA, .slice qS n.subs.length kS, .slice qI n.items.length kI, .string n.parent] (sizeNode w2) rfl rfl (node_one _ _ _ _ _ _ _ _ rfl rfl rfl)
    have hb3 : w.heap.size ≤ w2.heap.size := HB2.out.size
    have HB3 := Lib.hid (below_gone HB2.out hg3 HB2.out.size (Nat.le_refl _))
    have HA3 := Lib.hid (hA2.gone hg3 nAb)
    have HS3 := Lib.hid (hS2.gone hg3 nSb)
    have HI3 := Lib.hid (hI2.gone hg3 nIb)
    have HRr3 := Lib.hid (HRr.out.gone hg3 (by omega))
    have HRb3 := Lib.hid hr3
    have HST3 := Lib.hid hst3
    have s3 := hr3.at 3 _ rfl
    have s4 := hr3.at 4 _ rfl
    have s5 := hr3.at 5 _ rfl
    have s6 := hr3.at 6 _ rfl
    clear hst3 hr3 hg3 hs3 hA2 hS2 hI2 hB2
    have hD := dropItem_any 27 ofPub w.heap.size (.slice qI n.items.length kI) n.items item w3 HI3.out HB3.out.size hil
    have HDr := Lib.hid hD
    have aA := HA3.out.apart HI3.out (by decide)
    have aS := HS3.out.apart HI3.out (by decide)
    clear hD
    go_wp2_with (refine wpList_store_run _ rfl 28 _ _ rfl _ _ rfl rfl HST3.out ?_)
    (with_reducible refine HDr.out.mono ?_)
    rintro e w4 ⟨v4, rfl, ho4, hg4⟩
    obtain ⟨q4, k4, rfl⟩ := row_slice ho4
    have HB4 := Lib.hid (below_goneR HB3.out hg4 HI3.out HB3.out.size (Nat.le_refl _))
    have HRb4 := Lib.hid (HRb3.out.goneR hg4 nIb)
    have HRr4 := Lib.hid (HRr3.out.goneR hg4 nIr)
    have HA4 := Lib.hid (HA3.out.goneR hg4 aA)
    have HS4 := Lib.hid (HS3.out.goneR hg4 aS)
    obtain ⟨W5, hW5, hB5, hX5, _⟩ := one w4 36 [.string item, .string by_, .string body]
    have HB5 : Hid (Below w.heap.size w W5.drew) := (HB4.out.trans (hB5.mono HB4.out.size)).drew
    have HRb5 : Hid (RowI W5.drew w.heap.size 28 8 _) := HRb4.out.below hB5.drew
    have HRr5 : Hid (RowI W5.drew (w.heap.size + 1) 28 8 _) := HRr4.out.below hB5.drew
    have HA5 : Hid (OwE PAff.enc 2 W5.drew w.heap.size 54 _ _) := HA4.out.below hB5.drew
    have HS5 : Hid (OwE PSub.enc 3 W5.drew w.heap.size 47 _ _) := HS4.out.below hB5.drew
    have HO5 : Hid (OwE PItem.enc 3 W5.drew w.heap.size 36 (.slice q4 (dropL PItem.id item n.items).length k4) (dropL PItem.id item n.items)) := ho4.below hB5.drew
    have HX5 : Hid (∀ j u, (PItem.enc ⟨item, by_, body⟩)[j]? = some u → W5.drew.cell? ((⟨w4.heap.size, 0, none⟩ : Addr).add j) = some u) := fun j u hj => by
      have ha : (⟨w4.heap.size, 0, none⟩ : Addr).add j = ⟨w4.heap.size, j, none⟩ := by unfold Addr.add; split <;> simp_all
      rw [ha]
      exact hX5.at j u hj
    have nb5 := HO5.out.ne HRb5.out (by decide)
    have nr5 := HO5.out.ne HRr5.out (by decide)
    have na5 := HA5.out.apart HO5.out (by decide)
    have ns5 := HS5.out.apart HO5.out (by decide)
    have HL4 : Hid ((dropL PItem.id item n.items).length + 1 ≤ maxLen ∧ ((dropL PItem.id item n.items).length + 1) * 48 ≤ 140737488355328) := ⟨by simp only [maxLen]; omega, by omega⟩
    have HL6 : Hid ((dropL PItem.id item n.items ++ [(⟨item, by_, body⟩ : PItem)]).length ≤ 1001) := by show _ ≤ _; rw [List.length_append]; simp; omega
    have s3 := HRb4.out.at 3 _ rfl
    have g5 : W5.drew.cell? ⟨w.heap.size, 3, none⟩ = some (.int .i64 n.max) := HRb5.out.at 3 _ rfl
    obtain ⟨i0, hi, hz0, hz1, hz2⟩ := info_parts infoItem
    have HW5 := Lib.hid hW5
    clear hW5 hB5 hX5 ho4 hg4 aA aS hil hdl s4 s5 s6 d0 d1 d2 d3 d4 d5 d6 d7 c0 c1 c2 c3 c4 c5 c6 c7
    go_wp2_with fail
    refine wp_region_held_drew (S := (fun W => W.cell? ⟨w.heap.size, 3, none⟩ = some (.int .i64 n.max))) mixed s3 (fun hHeld => ?_)
    first
      | (refine wpAnyH_take (i := 0) (oi := { dst := _, op := _, type := _, pos := _, after := _, guard := _ }) (v := _) rfl (by kernel_rfl) (by kernel_rfl) (by kernel_rfl) (fun _ _ _ h => h) (Or.inr ⟨by rfl, rfl⟩) hHeld ?_; (try simp only [Act.put, List.setIfInBounds_toArray, List.set_cons_zero, List.set_cons_succ]))
      | (refine wpAnyH_take (i := 0) (oi := { dst := _, op := _, type := _, pos := _, after := _, guard := _ }) (v := ?_) rfl (by kernel_rfl) (by kernel_rfl) (by kernel_rfl) (fun _ _ _ h => h) (Or.inl ⟨by rfl, ?_⟩) hHeld ?_; rotate_left; (focus (intro wS hSw; (try dsimp only at hSw); go_simp; (try with_reducible rfl); done)); (try simp only [Act.put, List.setIfInBounds_toArray, List.set_cons_zero, List.set_cons_succ]))
    first
      | (refine wpAnyH_take (i := 1) (oi := { dst := _, op := _, type := _, pos := _, after := _, guard := _ }) (v := _) rfl (by kernel_rfl) (by kernel_rfl) (by kernel_rfl) (fun _ _ _ h => h) (Or.inr ⟨by rfl, rfl⟩) hHeld ?_; (try simp only [Act.put, List.setIfInBounds_toArray, List.set_cons_zero, List.set_cons_succ]))
      | (refine wpAnyH_take (i := 1) (oi := { dst := _, op := _, type := _, pos := _, after := _, guard := _ }) (v := ?_) rfl (by kernel_rfl) (by kernel_rfl) (by kernel_rfl) (fun _ _ _ h => h) (Or.inl ⟨by rfl, ?_⟩) hHeld ?_; rotate_left; (focus (intro wS hSw; (try dsimp only at hSw); go_simp; (try with_reducible rfl); done)); (try simp only [Act.put, List.setIfInBounds_toArray, List.set_cons_zero, List.set_cons_succ]))
    first
      | (refine wpAnyH_take (i := 2) (oi := { dst := _, op := _, type := _, pos := _, after := _, guard := _ }) (v := _) rfl (by kernel_rfl) (by kernel_rfl) (by kernel_rfl) (fun _ _ _ h => h) (Or.inr ⟨by rfl, rfl⟩) hHeld ?_; (try simp only [Act.put, List.setIfInBounds_toArray, List.set_cons_zero, List.set_cons_succ]))
      | (refine wpAnyH_take (i := 2) (oi := { dst := _, op := _, type := _, pos := _, after := _, guard := _ }) (v := ?_) rfl (by kernel_rfl) (by kernel_rfl) (by kernel_rfl) (fun _ _ _ h => h) (Or.inl ⟨by rfl, ?_⟩) hHeld ?_; rotate_left; (focus (intro wS hSw; (try dsimp only at hSw); go_simp; (try with_reducible rfl); done)); (try simp only [Act.put, List.setIfInBounds_toArray, List.set_cons_zero, List.set_cons_succ]))
    first
      | (refine wpAnyH_take (i := 3) (oi := { dst := _, op := _, type := _, pos := _, after := _, guard := _ }) (v := _) rfl (by kernel_rfl) (by kernel_rfl) (by kernel_rfl) (fun _ _ _ h => h) (Or.inr ⟨by rfl, rfl⟩) hHeld ?_; (try simp only [Act.put, List.setIfInBounds_toArray, List.set_cons_zero, List.set_cons_succ]))
      | (refine wpAnyH_take (i := 3) (oi := { dst := _, op := _, type := _, pos := _, after := _, guard := _ }) (v := ?_) rfl (by kernel_rfl) (by kernel_rfl) (by kernel_rfl) (fun _ _ _ h => h) (Or.inl ⟨by rfl, ?_⟩) hHeld ?_; rotate_left; (focus (intro wS hSw; (try dsimp only at hSw); go_simp; (try with_reducible rfl); done)); (try simp only [Act.put, List.setIfInBounds_toArray, List.set_cons_zero, List.set_cons_succ]))
    first
      | (refine wpAnyH_take (i := 4) (oi := { dst := _, op := _, type := _, pos := _, after := _, guard := _ }) (v := _) rfl (by kernel_rfl) (by kernel_rfl) (by kernel_rfl) (fun _ _ _ h => h) (Or.inr ⟨by rfl, rfl⟩) hHeld ?_; (try simp only [Act.put, List.setIfInBounds_toArray, List.set_cons_zero, List.set_cons_succ]))
      | (refine wpAnyH_take (i := 4) (oi := { dst := _, op := _, type := _, pos := _, after := _, guard := _ }) (v := ?_) rfl (by kernel_rfl) (by kernel_rfl) (by kernel_rfl) (fun _ _ _ h => h) (Or.inl ⟨by rfl, ?_⟩) hHeld ?_; rotate_left; (focus (intro wS hSw; (try dsimp only at hSw); go_simp; (try with_reducible rfl); done)); (try simp only [Act.put, List.setIfInBounds_toArray, List.set_cons_zero, List.set_cons_succ]))
    first
      | (refine wpAnyH_take (i := 7) (oi := { dst := _, op := _, type := _, pos := _, after := _, guard := _ }) (v := _) rfl (by kernel_rfl) (by kernel_rfl) (by kernel_rfl) (fun _ _ _ h => h) (Or.inr ⟨by rfl, rfl⟩) hHeld ?_; (try simp only [Act.put, List.setIfInBounds_toArray, List.set_cons_zero, List.set_cons_succ]))
      | (refine wpAnyH_take (i := 7) (oi := { dst := _, op := _, type := _, pos := _, after := _, guard := _ }) (v := ?_) rfl (by kernel_rfl) (by kernel_rfl) (by kernel_rfl) (fun _ _ _ h => h) (Or.inl ⟨by rfl, ?_⟩) hHeld ?_; rotate_left; (focus (intro wS hSw; (try dsimp only at hSw); go_simp; (try with_reducible rfl); done)); (try simp only [Act.put, List.setIfInBounds_toArray, List.set_cons_zero, List.set_cons_succ]))
    first
      | (refine wpAnyH_take (i := 8) (oi := { dst := _, op := _, type := _, pos := _, after := _, guard := _ }) (v := _) rfl (by kernel_rfl) (by kernel_rfl) (by kernel_rfl) (fun _ _ _ h => h) (Or.inr ⟨by rfl, rfl⟩) hHeld ?_; (try simp only [Act.put, List.setIfInBounds_toArray, List.set_cons_zero, List.set_cons_succ]))
      | (refine wpAnyH_take (i := 8) (oi := { dst := _, op := _, type := _, pos := _, after := _, guard := _ }) (v := ?_) rfl (by kernel_rfl) (by kernel_rfl) (by kernel_rfl) (fun _ _ _ h => h) (Or.inl ⟨by rfl, ?_⟩) hHeld ?_; rotate_left; (focus (intro wS hSw; (try dsimp only at hSw); go_simp; (try with_reducible rfl); done)); (try simp only [Act.put, List.setIfInBounds_toArray, List.set_cons_zero, List.set_cons_succ]))
    refine wpAnyH_ready (rs := [5]) (by kernel_rfl) (by simp) ?_
    refine AllReadyH.cons (o := { dst := _, op := _, type := _, pos := _, after := _, guard := _ }) rfl (fun K hK => ?_) AllReadyH.nil
    go_simp
    rw [HW5.out]
    refine hK.out _ _ ?_ (fun hHeld => ?_)
    focus (assumption)
    clear hK K
    (try simp only [Act.put, List.setIfInBounds_toArray, List.set_cons_zero, List.set_cons_succ])
    refine wpAnyH_ready (rs := [6]) (by kernel_rfl) (by simp) ?_
    refine AllReadyH.cons (o := { dst := _, op := _, type := _, pos := _, after := _, guard := _ }) rfl (fun K hK => ?_) AllReadyH.nil
    rw [if_pos (by rfl)]
    refine wp_append_own _ (.tmp 38) (.tmp 43) 26 rfl w.heap.size 36 i0 (.agg #[.string ⟨#[]⟩, .string ⟨#[]⟩, .string ⟨#[]⟩]) 3 48 Try.underlying26 hi hz0 hz1 hz2 rfl (by omega) (.slice q4 (dropL PItem.id item n.items).length k4) (dropL PItem.id item n.items).length ((dropL PItem.id item n.items).flatMap PItem.enc) rfl HO5.out ⟨w4.heap.size, 0, none⟩ 1 1 (PItem.enc ⟨item, by_, body⟩) rfl rfl HX5.out (item_one1 _) HL4.out.1 HL4.out.2 HB5.out.size ?_
    intro v6 w6 ho6 hg6 _
    obtain ⟨q6, k6, rfl⟩ := row_slice ho6
    have HO6 : Hid (OwE PItem.enc 3 w6 w.heap.size 36 (.slice q6 ((dropL PItem.id item n.items).length + 1) k6) (dropL PItem.id item n.items ++ [⟨item, by_, body⟩])) := by
      show OwE _ _ _ _ _ _ _
      unfold OwE
      rw [List.length_append, List.flatMap_append]
      simpa using ho6
    have HB6 := Lib.hid (below_goneR HB5.out hg6 HO5.out HB5.out.size (Nat.le_refl _))
    have HRb6 := Lib.hid (HRb5.out.goneR hg6 nb5)
    have HRr6 := Lib.hid (HRr5.out.goneR hg6 nr5)
    have HA6 := Lib.hid (HA5.out.goneR hg6 na5)
    have HS6 := Lib.hid (HS5.out.goneR hg6 ns5)
    have g6 := HRb6.out.at 3 _ rfl
    clear ho6 hg6
    refine hK.out _ _ ?_ (fun hHeld => ?_)
    focus (assumption)
    clear hK K
    (try simp only [Act.put, List.setIfInBounds_toArray, List.set_cons_zero, List.set_cons_succ])
    first
      | (refine wpAnyH_take (i := 9) (oi := { dst := _, op := _, type := _, pos := _, after := _, guard := _ }) (v := _) rfl (by kernel_rfl) (by kernel_rfl) (by kernel_rfl) (fun _ _ _ h => h) (Or.inr ⟨by rfl, rfl⟩) hHeld ?_; (try simp only [Act.put, List.setIfInBounds_toArray, List.set_cons_zero, List.set_cons_succ]))
      | (refine wpAnyH_ready (rs := [9]) (by kernel_rfl) (by simp) ?_; refine AllReadyH.cons (o := { dst := _, op := _, type := _, pos := _, after := _, guard := _ }) rfl (fun K hK => ?_) AllReadyH.nil; go_simp; go_at_call 22; (with_reducible refine (newest_any _ _ n.max w6 (HO6.out.sl PItem.enc_len) HMX.out.1 HMX.out.2 HL6.out).mono ?_); rintro e w7 ⟨v7, rfl, ⟨q7, n7, k7, rfl⟩, hv7, hw7⟩; obtain rfl := hw7.symm; have HV7 := Lib.hid hv7; clear hv7; obtain ⟨w8, st8, hr8, hg8, _⟩ := run_store_one (P := Try.prog) HRb6.out 26 6 (.slice q7 n7 k7) (Try.sizeOf26 _) (by simp) rfl rfl; have ST8 := Lib.hid st8; have HR8 := Lib.hid hr8; have HG8 := Lib.hid hg8; clear st8 hr8 hg8; go_wp2_with fail; refine hK.out _ _ ?_ (fun hHeld => ?_); (focus (assumption)); clear hK K; (try simp only [Act.put, List.setIfInBounds_toArray, List.set_cons_zero, List.set_cons_succ]))
    first
      | (refine wpAnyH_take (i := 10) (oi := { dst := _, op := _, type := _, pos := _, after := _, guard := _ }) (v := _) rfl (by kernel_rfl) (by kernel_rfl) (by kernel_rfl) (fun _ _ _ h => h) (Or.inr ⟨by rfl, rfl⟩) hHeld ?_; (try simp only [Act.put, List.setIfInBounds_toArray, List.set_cons_zero, List.set_cons_succ]))
      | (refine wpAnyH_take (i := 10) (oi := { dst := _, op := _, type := _, pos := _, after := _, guard := _ }) (v := ?_) rfl (by kernel_rfl) (by kernel_rfl) (by kernel_rfl) (fun _ _ _ h => h) (Or.inl ⟨by rfl, ?_⟩) hHeld ?_; rotate_left; (focus (intro wS hSw; (try dsimp only at hSw); go_simp; (try with_reducible rfl); done)); (try simp only [Act.put, List.setIfInBounds_toArray, List.set_cons_zero, List.set_cons_succ]))
    refine wpAnyH_ready (rs := [11]) (by kernel_rfl) (by simp) ?_
    refine AllReadyH.cons (o := { dst := _, op := _, type := _, pos := _, after := _, guard := _ }) rfl (fun K hK => ?_) AllReadyH.nil
    rw [if_pos (by rfl)]
    refine wp_store_run _ 26 _ _ rfl _ _ rfl rfl ST8.out ?_
    have g8 := HR8.out.at 3 _ rfl
    refine hK.out _ _ ?_ (fun hHeld => ?_)
    focus (assumption)
    clear hK K
    (try simp only [Act.put, List.setIfInBounds_toArray, List.set_cons_zero, List.set_cons_succ])
    refine wpAnyH_done (by kernel_rfl) ?_ _
    have m0 := HR8.out.at 0 _ rfl
    have m1 := HR8.out.at 1 _ rfl
    have m2 := HR8.out.at 2 _ rfl
    have m3 := HR8.out.at 3 _ rfl
    have m4 := HR8.out.at 4 _ rfl
    have m5 := HR8.out.at 5 _ rfl
    have m6 := HR8.out.at 6 _ rfl
    have m7 := HR8.out.at 7 _ rfl
    have HB8 := Lib.hid (below_gone HB6.out HG8.out HB6.out.size (Nat.le_refl _))
    have HRr8 := Lib.hid (HRr6.out.gone HG8.out (by omega))
    obtain ⟨w9, st9, hr9, hg9, _⟩ := run_store_row (P := Try.prog) HRr8.out 28 [.string n.name, .bool n.coll, .int .u8 n.access, .int .i64 n.max, .slice qA n.affs.length kA, .slice qS n.subs.length kS, .slice q7 n7 k7, .string n.parent] (sizeNode w8) rfl rfl (node_one _ _ _ _ _ _ _ _ rfl rfl rfl)
    have nA6b := HA6.out.ne HRb6.out (by decide)
    have nS6b := HS6.out.ne HRb6.out (by decide)
    have nO6b := HO6.out.ne HRb6.out (by decide)
    have nA6r := HA6.out.ne HRr6.out (by decide)
    have nS6r := HS6.out.ne HRr6.out (by decide)
    have nO6r := HO6.out.ne HRr6.out (by decide)
    have HA9 := Lib.hid ((HA6.out.gone HG8.out nA6b).gone hg9 nA6r)
    have HS9 := Lib.hid ((HS6.out.gone HG8.out nS6b).gone hg9 nS6r)
    have HO9 := Lib.hid ((HO6.out.gone HG8.out nO6b).gone hg9 nO6r)
    have HB9 := Lib.hid (below_gone HB8.out hg9 HB8.out.size (Nat.le_succ _))
    have u0 := hr9.at 0 _ rfl
    have u1 := hr9.at 1 _ rfl
    have u2 := hr9.at 2 _ rfl
    have u3 := hr9.at 3 _ rfl
    have u4 := hr9.at 4 _ rfl
    have u5 := hr9.at 5 _ rfl
    have u6 := hr9.at 6 _ rfl
    have u7 := hr9.at 7 _ rfl
    have ST9 := Lib.hid st9
    clear st9 hr9 hg9 hHeld
    go_wp2_with (refine wpList_store_run _ rfl 28 _ _ rfl _ _ rfl rfl ST9.out ?_)
    refine bodyPost_ret (by simp [results, Try.results10, go_sem, u0, u1, u2, u3, u4, u5, u6, u7]; try rfl) rfl ?_
    exact ⟨_, by rw [HC.out], by rw [HC.out]; exact ⟨_, _, _, rfl, HA9.out.sl PAff.enc_len, HS9.out.sl PSub.enc_len, HV7.out _ (HO9.out.sl PItem.enc_len)⟩, HB9.out⟩
  · have hne : (publisherN pr n by_ 4 != 0) = true := by rw [bne_iff_ne]; exact ho
    have HC : Hid (publishN pr n by_ item body = (noNode, publisherN pr n by_ 4)) := by show _ = _; unfold publishN; rw [if_pos hne]
    generalize publisherN pr n by_ 4 = c at *
    clear ho
    go_wp2_with fail
    (with_reducible refine (refused_any c w1).mono ?_)
    rintro e wr ⟨vr, rfl, hvr, hBr⟩
    obtain ⟨Ar, Sr, Ir, rfl, hAr, hSr, hIr⟩ := hvr
    have HVr := Lib.hid (And.intro hAr (And.intro hSr hIr))
    have HBr := Lib.hid (HB1.out.trans (hBr.mono HB1.out.size))
    obtain ⟨wq, hst, hrq, hgq, hsq⟩ := run_store_row (P := Try.prog) (HR21.out.below hBr) 28 [.string noNode.name, .bool noNode.coll, .int .u8 noNode.access, .int .i64 noNode.max, Ar, Sr, Ir, .string noNode.parent] (sizeNode wr) rfl rfl (node_one _ _ _ _ _ _ _ _ hAr.one hSr.one hIr.one)
    have HGq := Lib.hid hgq
    have HST := Lib.hid hst
    have r0 := hrq.at 0 _ rfl
    have r1 := hrq.at 1 _ rfl
    have r2 := hrq.at 2 _ rfl
    have r3 := hrq.at 3 _ rfl
    have r4 := hrq.at 4 _ rfl
    have r5 := hrq.at 5 _ rfl
    have r6 := hrq.at 6 _ rfl
    have r7 := hrq.at 7 _ rfl
    clear hst hrq hgq hsq hAr hSr hIr hBr
    go_wp2_with (refine wpList_store_run _ rfl 28 _ _ rfl _ _ rfl rfl HST.out ?_)
    refine bodyPost_ret (by simp [results, Try.results10, go_sem, r0, r1, r2, r3, r4, r5, r6, r7]; try rfl) rfl ?_
    exact ⟨_, by rw [HC.out], by rw [HC.out]; exact ⟨Ar, Sr, Ir, rfl, HVr.out.1.empty, HVr.out.2.1.empty, HVr.out.2.2.empty⟩, below_gone HBr.out HGq.out HBr.out.size (Nat.le_succ _)⟩
end Go.Proofs.Ytpjaopcgoaannaa
