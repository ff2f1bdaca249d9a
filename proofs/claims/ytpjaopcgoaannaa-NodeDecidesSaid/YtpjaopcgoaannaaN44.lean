/- NodeDecides: the walk. Written by gen_n44.py. -/
import Derived.Test.YtpjaopcgoaannaaN42
import Derived.Test.YtpjaopcgoaannaaN43
import Derived.Test.YtpjaopcgoaannaaN29
import Derived.Deep.RegionHeld3
namespace Go.Proofs.Ytpjaopcgoaannaa
open Go.RowKit Go.Lib
open Hb

theorem lastOw_sm {leaf : Bool} {n : PNode} (h : Stay leaf n) : Sm (lastOw n.affs) := by
  obtain ⟨a, ha, _, he⟩ := lastOw_mem n.affs ⟨#[]⟩ h.right.owned
  unfold lastOw
  rw [he]
  exact h.bd.aff a ha

set_option maxRecDepth 100000 in
set_option maxHeartbeats 8000000 in
theorem nodeDecides_row (w : World) (vl : Value) (l : List PEdit) (hl : SlE PEdit.enc 10 w vl l) (hll : l.length ≤ maxLen) (hx : ∀ x ∈ l, SmX x) (who : ByteArray) (hsw : who.size ≤ 140737488351232) (yes : Bool) :
    Calls Try.prog 6 #[vl, .string who, .bool yes] w fun e w' => e = .returned (.bool true) ∧ Below w.heap.size w w' := by
  obtain ⟨al, cl, rfl⟩ := hl.form
  have HBe := Lib.hid (begun_any 1 true w (by decide) (by decide))
  have HS0 := Lib.hid (begun_stay 1 true)
  generalize begunN 1 true = n0 at *
  have HSw : Hid (Sm who) := Nat.le_trans hsw (by decide)
  have HL := Lib.hid hl
  have HX := Lib.hid hx
  have HLV := Lib.hid (live_any)
  have mixed : Try.prog.follows .mixedOrders = true := by kernel_rfl
  clear hl hll hx hsw
  go_enter Try.func6, Try.ntmps6
  go_wp2_with fail
  (with_reducible refine HBe.out.mono ?_)
  rintro e w1 ⟨v1, rfl, hv1, hB1⟩
  obtain ⟨A1, S1, I1, rfl, hA1, hS1, hI1⟩ := hv1
  obtain ⟨a1, k1, rfl⟩ := hA1.form
  obtain ⟨a2, k2, rfl⟩ := hS1.form
  obtain ⟨a3, k3, rfl⟩ := hI1.form
  obtain ⟨w2, hw2, hB2, hr2, hs2⟩ := one w1 28 [.string n0.name, .bool n0.coll, .int .u8 n0.access, .int .i64 n0.max, .slice a1 n0.affs.length k1, .slice a2 n0.subs.length k2, .slice a3 n0.items.length k3, .string n0.parent]
  have HV2 : Hid (NodeV w2 (.agg #[.string n0.name, .bool n0.coll, .int .u8 n0.access, .int .i64 n0.max, .slice a1 n0.affs.length k1, .slice a2 n0.subs.length k2, .slice a3 n0.items.length k3, .string n0.parent]) n0) := NodeV.below ⟨_, _, _, rfl, hA1, hS1, hI1⟩ hB2
  have HB2 := Lib.hid (hB1.trans (hB2.mono hB1.size))
  have HR2 := Lib.hid hr2
  have HW2 := Lib.hid hw2
  have HA7 : Hid (w.heap.size ≤ w1.heap.size) := hB1.size
  clear hw2 hB2 hr2 hs2 hA1 hS1 hI1 hB1 HBe
  go_upto_region 3 with fail
  rw [HW2.out]
  clear HW2
  go_loopw [8] (fun iv W => ∃ (k : Nat) (n : PNode) (a1 a2 a3 : Option Addr) (k1 k2 k3 : Nat), k ≤ l.length ∧ k ≤ 20 ∧ iv = .int .i64 k ∧ Hid (RowI W w1.heap.size 28 8 [.string n.name, .bool n.coll, .int .u8 n.access, .int .i64 n.max, .slice a1 n.affs.length k1, .slice a2 n.subs.length k2, .slice a3 n.items.length k3, .string n.parent]) ∧ Hid (NodeV W (.agg #[.string n.name, .bool n.coll, .int .u8 n.access, .int .i64 n.max, .slice a1 n.affs.length k1, .slice a2 n.subs.length k2, .slice a3 n.items.length k3, .string n.parent]) n) ∧ Hid (Stay true n) ∧ Hid (Below w.heap.size w W)) (fun iv _ => l.length - (intOf iv).toNat)
  case atStart => exact ⟨0, n0, a1, a2, a3, k1, k2, k3, Nat.zero_le _, by decide, rfl, HR2.out, HV2.out, HS0.out, HB2.out⟩
  case round =>
    obtain ⟨k, n, a1, a2, a3, k1, k2, k3, hk, hk4, rfl, HRn, HVn, HSt, HB⟩ := hrel
    by_cases hlt : k < l.length
    · have ck : decide ((k : Int) < (l.length : Int)) = true := by rw [decide_eq_true_eq]; omega
      by_cases h40 : k < 20
      · have c40 : decide ((k : Int) < 20) = true := by rw [decide_eq_true_eq]; omega
        obtain ⟨g, off, hag, hcell⟩ := (HL.out.below HB.out).at k hlt
        subst hag
        have hgl : g < wr.heap.size := by
          obtain ⟨_, _, e, _, hx⟩ := HL.out.below HB.out
          injection e with e1 e2 e3
          rcases hx with hx | ⟨g', o', ha, hg, _⟩
          · rw [hx] at hlt; cases hlt
          · rw [ha] at e1; cases e1; exact hg
        have hsx := HX.out l[k] (List.getElem_mem hlt)
        generalize l[k] = x at hcell hsx
        have hst := HSt.out.step hsx
        have HDo : Hid (∀ W, Below wr.heap.size wr W → Calls Try.prog 12 #[.agg #[.string n.name, .bool n.coll, .int .u8 n.access, .int .i64 n.max, .slice a1 n.affs.length k1, .slice a2 n.subs.length k2, .slice a3 n.items.length k3, .string n.parent], .agg #[.int .i64 x.kind, .string x.by_, .string x.who, .int .i64 x.depth, .int .i64 x.max, .bool x.yes, .int .u8 x.role, .int .u8 x.access, .string x.item, .string x.text]] W fun e w' => ∃ v', e = .returned (.tuple #[v', .int .i64 (doN pr n x).2]) ∧ NodeV w' v' (doN pr n x).1 ∧ Below W.heap.size W w') := fun W hW => do_any _ n x W (HVn.out.below hW) HSt.out.bd hsx
        generalize hres : doN pr n x = res at hst HDo
        have HED : Hid (wr.cell? ⟨g, off + k * 10, none⟩ = some (.int .i64 x.kind) ∧ wr.cell? ⟨g, off + k * 10 + 1, none⟩ = some (.string x.by_) ∧ wr.cell? ⟨g, off + k * 10 + 2, none⟩ = some (.string x.who) ∧ wr.cell? ⟨g, off + k * 10 + 3, none⟩ = some (.int .i64 x.depth) ∧ wr.cell? ⟨g, off + k * 10 + 4, none⟩ = some (.int .i64 x.max) ∧ wr.cell? ⟨g, off + k * 10 + 5, none⟩ = some (.bool x.yes) ∧ wr.cell? ⟨g, off + k * 10 + 6, none⟩ = some (.int .u8 x.role) ∧ wr.cell? ⟨g, off + k * 10 + 7, none⟩ = some (.int .u8 x.access) ∧ wr.cell? ⟨g, off + k * 10 + 8, none⟩ = some (.string x.item) ∧ wr.cell? ⟨g, off + k * 10 + 9, none⟩ = some (.string x.text)) := ⟨hcell 0 (by decide), hcell 1 (by decide), hcell 2 (by decide), hcell 3 (by decide), hcell 4 (by decide), hcell 5 (by decide), hcell 6 (by decide), hcell 7 (by decide), hcell 8 (by decide), hcell 9 (by decide)⟩
        have HGL := Lib.hid hgl
        have HST := Lib.hid hst
        clear hcell hgl hsx hres hst
        go_upto_region 5 with fail
        refine wp_region_held_drew (S := fun W => Below wr.heap.size wr W) mixed (Below.refl _ _).drew (fun hHeld => ?_)
        refine wpAnyH_take (i := 0) (oi := { dst := _, op := _, type := _, pos := _, after := _, guard := _ }) (v := ?_) rfl (by kernel_rfl) (by kernel_rfl) (by kernel_rfl) (fun _ _ _ h => h) (Or.inl ⟨by rfl, ?_⟩) hHeld ?_; rotate_left; (focus (intro wS hSw; (have c0 := (HRn.out.below hSw).at 0 _ rfl; have c1 := (HRn.out.below hSw).at 1 _ rfl; have c2 := (HRn.out.below hSw).at 2 _ rfl; have c3 := (HRn.out.below hSw).at 3 _ rfl; have c4 := (HRn.out.below hSw).at 4 _ rfl; have c5 := (HRn.out.below hSw).at 5 _ rfl; have c6 := (HRn.out.below hSw).at 6 _ rfl; have c7 := (HRn.out.below hSw).at 7 _ rfl); go_simp; (try with_reducible rfl); done)); (try simp only [Act.put, List.setIfInBounds_toArray, List.set_cons_zero, List.set_cons_succ])
        first
          | (refine wpAnyH_take (i := 1) (oi := { dst := _, op := _, type := _, pos := _, after := _, guard := _ }) (v := _) rfl (by kernel_rfl) (by kernel_rfl) (by kernel_rfl) (fun _ _ _ h => h) (Or.inr ⟨by rfl, rfl⟩) hHeld ?_; (try simp only [Act.put, List.setIfInBounds_toArray, List.set_cons_zero, List.set_cons_succ]))
          | (refine wpAnyH_take (i := 1) (oi := { dst := _, op := _, type := _, pos := _, after := _, guard := _ }) (v := ?_) rfl (by kernel_rfl) (by kernel_rfl) (by kernel_rfl) (fun _ _ _ h => h) (Or.inl ⟨by rfl, ?_⟩) hHeld ?_; rotate_left; (focus (intro wS hSw; (try dsimp only at hSw); go_simp; (try with_reducible rfl); done)); (try simp only [Act.put, List.setIfInBounds_toArray, List.set_cons_zero, List.set_cons_succ]))
        first
          | (refine wpAnyH_take (i := 2) (oi := { dst := _, op := _, type := _, pos := _, after := _, guard := _ }) (v := _) rfl (by kernel_rfl) (by kernel_rfl) (by kernel_rfl) (fun _ _ _ h => h) (Or.inr ⟨by rfl, rfl⟩) hHeld ?_; (try simp only [Act.put, List.setIfInBounds_toArray, List.set_cons_zero, List.set_cons_succ]))
          | (refine wpAnyH_take (i := 2) (oi := { dst := _, op := _, type := _, pos := _, after := _, guard := _ }) (v := ?_) rfl (by kernel_rfl) (by kernel_rfl) (by kernel_rfl) (fun _ _ _ h => h) (Or.inl ⟨by rfl, ?_⟩) hHeld ?_; rotate_left; (focus (intro wS hSw; (try dsimp only at hSw); go_simp; (try with_reducible rfl); done)); (try simp only [Act.put, List.setIfInBounds_toArray, List.set_cons_zero, List.set_cons_succ]))
        first
          | (refine wpAnyH_take (i := 3) (oi := { dst := _, op := _, type := _, pos := _, after := _, guard := _ }) (v := _) rfl (by kernel_rfl) (by kernel_rfl) (by kernel_rfl) (fun _ _ _ h => h) (Or.inr ⟨by rfl, rfl⟩) hHeld ?_; (try simp only [Act.put, List.setIfInBounds_toArray, List.set_cons_zero, List.set_cons_succ]))
          | (refine wpAnyH_take (i := 3) (oi := { dst := _, op := _, type := _, pos := _, after := _, guard := _ }) (v := ?_) rfl (by kernel_rfl) (by kernel_rfl) (by kernel_rfl) (fun _ _ _ h => h) (Or.inl ⟨by rfl, ?_⟩) hHeld ?_; rotate_left; (focus (intro wS hSw; (try dsimp only at hSw); go_simp; (try with_reducible rfl); done)); (try simp only [Act.put, List.setIfInBounds_toArray, List.set_cons_zero, List.set_cons_succ]))
        refine wpAnyH_take (i := 4) (oi := { dst := _, op := _, type := _, pos := _, after := _, guard := _ }) (v := ?_) rfl (by kernel_rfl) (by kernel_rfl) (by kernel_rfl) (fun _ _ _ h => h) (Or.inl ⟨by rfl, ?_⟩) hHeld ?_; rotate_left; (focus (intro wS hSw; (have e0 := (hSw.cell (p := ⟨g, off + k * 10, none⟩) HGL.out).trans HED.out.1; have e1 := (hSw.cell (p := ⟨g, off + k * 10 + 1, none⟩) HGL.out).trans HED.out.2.1; have e2 := (hSw.cell (p := ⟨g, off + k * 10 + 2, none⟩) HGL.out).trans HED.out.2.2.1; have e3 := (hSw.cell (p := ⟨g, off + k * 10 + 3, none⟩) HGL.out).trans HED.out.2.2.2.1; have e4 := (hSw.cell (p := ⟨g, off + k * 10 + 4, none⟩) HGL.out).trans HED.out.2.2.2.2.1; have e5 := (hSw.cell (p := ⟨g, off + k * 10 + 5, none⟩) HGL.out).trans HED.out.2.2.2.2.2.1; have e6 := (hSw.cell (p := ⟨g, off + k * 10 + 6, none⟩) HGL.out).trans HED.out.2.2.2.2.2.2.1; have e7 := (hSw.cell (p := ⟨g, off + k * 10 + 7, none⟩) HGL.out).trans HED.out.2.2.2.2.2.2.2.1; have e8 := (hSw.cell (p := ⟨g, off + k * 10 + 8, none⟩) HGL.out).trans HED.out.2.2.2.2.2.2.2.2.1; have e9 := (hSw.cell (p := ⟨g, off + k * 10 + 9, none⟩) HGL.out).trans HED.out.2.2.2.2.2.2.2.2.2); go_simp; (try with_reducible rfl); done)); (try simp only [Act.put, List.setIfInBounds_toArray, List.set_cons_zero, List.set_cons_succ])
        refine wpAnyH_ready (rs := [5, 9]) (by kernel_rfl) (by simp) ?_
        refine AllReadyH.cons (o := { dst := _, op := _, type := _, pos := _, after := _, guard := _ }) rfl (fun K hK => ?_) (AllReadyH.cons (o := { dst := _, op := _, type := _, pos := _, after := _, guard := _ }) rfl (fun K hK => ?_) AllReadyH.nil)
        · go_simp
          go_at_call 12
          (with_reducible refine (HDo.out _ hHeld).mono ?_)
          rintro e w5 ⟨v5, rfl, hv5, hB5⟩
          have HB5 := Lib.hid (hHeld.trans (hB5.mono hHeld.size))
          obtain ⟨A5, S5, I5, rfl, hA5, hS5, hI5⟩ := hv5
          obtain ⟨b1, l1, rfl⟩ := hA5.form
          obtain ⟨b2, l2, rfl⟩ := hS5.form
          obtain ⟨b3, l3, rfl⟩ := hI5.form
          go_wp2_with fail
          obtain ⟨w6, hw6, hB6, hr6, hs6⟩ := one w5 28 [.string ⟨#[]⟩, .bool false, .int .u8 0, .int .i64 0, .slice none 0 0, .slice none 0 0, .slice none 0 0, .string ⟨#[]⟩]
          have HW6 := Lib.hid hw6
          have HB6 := Lib.hid (HB5.out.trans (hB6.mono HB5.out.size))
          have HR6 := Lib.hid hr6
          have HV6 : Hid (NodeV w6 (.agg #[.string res.1.name, .bool res.1.coll, .int .u8 res.1.access, .int .i64 res.1.max, .slice b1 res.1.affs.length l1, .slice b2 res.1.subs.length l2, .slice b3 res.1.items.length l3, .string res.1.parent]) res.1) := NodeV.below ⟨_, _, _, rfl, hA5, hS5, hI5⟩ hB6
          have HLT : Hid (w1.heap.size ≠ w5.heap.size ∧ wr.heap.size ≤ w5.heap.size) := ⟨by have := HRn.out.lt; have := HB5.out.size; omega, HB5.out.size⟩
          clear hw6 hB6 hr6 hs6 hA5 hS5 hI5 hB5
          obtain ⟨w7, st7, hr7, hg7, _⟩ := run_store_row (P := Try.prog) HR6.out 28 [.string res.1.name, .bool res.1.coll, .int .u8 res.1.access, .int .i64 res.1.max, .slice b1 res.1.affs.length l1, .slice b2 res.1.subs.length l2, .slice b3 res.1.items.length l3, .string res.1.parent] (sizeNode w6) rfl rfl (node_one _ _ _ _ _ _ _ _ rfl rfl rfl)
          have ST7 := Lib.hid st7
          have HB7 := Lib.hid (below_gone HB6.out hg7 HB6.out.size HLT.out.2)
          have HRm := Lib.hid hr7
          have HVm := Lib.hid (HV6.out.goneN HR6.out hg7)
          clear st7 hr7 hg7
          refine hK.out _ _ ?_ (fun hHeld => ?_)
          focus (exact HB5.out)
          clear hK K
          (try simp only [Act.put, List.setIfInBounds_toArray, List.set_cons_zero, List.set_cons_succ])
          first
            | (refine wpAnyH_take (i := 6) (oi := { dst := _, op := _, type := _, pos := _, after := _, guard := _ }) (v := _) rfl (by kernel_rfl) (by kernel_rfl) (by kernel_rfl) (fun _ _ _ h => h) (Or.inr ⟨by rfl, rfl⟩) hHeld ?_; (try simp only [Act.put, List.setIfInBounds_toArray, List.set_cons_zero, List.set_cons_succ]))
            | (refine wpAnyH_take (i := 6) (oi := { dst := _, op := _, type := _, pos := _, after := _, guard := _ }) (v := ?_) rfl (by kernel_rfl) (by kernel_rfl) (by kernel_rfl) (fun _ _ _ h => h) (Or.inl ⟨by rfl, ?_⟩) hHeld ?_; rotate_left; (focus (intro wS hSw; (try dsimp only at hSw); go_simp; (try with_reducible rfl); done)); (try simp only [Act.put, List.setIfInBounds_toArray, List.set_cons_zero, List.set_cons_succ]))
          first
            | (refine wpAnyH_take (i := 7) (oi := { dst := _, op := _, type := _, pos := _, after := _, guard := _ }) (v := _) rfl (by kernel_rfl) (by kernel_rfl) (by kernel_rfl) (fun _ _ _ h => h) (Or.inr ⟨by rfl, rfl⟩) hHeld ?_; (try simp only [Act.put, List.setIfInBounds_toArray, List.set_cons_zero, List.set_cons_succ]))
            | (refine wpAnyH_take (i := 7) (oi := { dst := _, op := _, type := _, pos := _, after := _, guard := _ }) (v := ?_) rfl (by kernel_rfl) (by kernel_rfl) (by kernel_rfl) (fun _ _ _ h => h) (Or.inl ⟨by rfl, ?_⟩) hHeld ?_; rotate_left; (focus (intro wS hSw; (try dsimp only at hSw); go_simp; (try with_reducible rfl); done)); (try simp only [Act.put, List.setIfInBounds_toArray, List.set_cons_zero, List.set_cons_succ]))
          first
            | (refine wpAnyH_take (i := 8) (oi := { dst := _, op := _, type := _, pos := _, after := _, guard := _ }) (v := _) rfl (by kernel_rfl) (by kernel_rfl) (by kernel_rfl) (fun _ _ _ h => h) (Or.inr ⟨by rfl, rfl⟩) hHeld ?_; (try simp only [Act.put, List.setIfInBounds_toArray, List.set_cons_zero, List.set_cons_succ]))
            | (refine wpAnyH_take (i := 8) (oi := { dst := _, op := _, type := _, pos := _, after := _, guard := _ }) (v := ?_) rfl (by kernel_rfl) (by kernel_rfl) (by kernel_rfl) (fun _ _ _ h => h) (Or.inl ⟨by rfl, ?_⟩) hHeld ?_; rotate_left; (focus (intro wS hSw; (try dsimp only at hSw); go_simp; (try with_reducible rfl); done)); (try simp only [Act.put, List.setIfInBounds_toArray, List.set_cons_zero, List.set_cons_succ]))
          refine wpAnyH_ready (rs := [9]) (by kernel_rfl) (by simp) ?_
          refine AllReadyH.cons (o := { dst := _, op := _, type := _, pos := _, after := _, guard := _ }) rfl (fun K hK => ?_) AllReadyH.nil
          go_simp
          rw [HW6.out]
          refine hK.out _ _ ?_ (fun hHeld => ?_)
          focus (exact HB6.out)
          clear hK K
          (try simp only [Act.put, List.setIfInBounds_toArray, List.set_cons_zero, List.set_cons_succ])
          refine wpAnyH_ready (rs := [10]) (by kernel_rfl) (by simp) ?_
          refine AllReadyH.cons (o := { dst := _, op := _, type := _, pos := _, after := _, guard := _ }) rfl (fun K hK => ?_) AllReadyH.nil
          rw [if_pos (by rfl)]
          refine wp_store_run _ 28 _ _ rfl _ _ rfl rfl ST7.out ?_
          refine hK.out _ _ ?_ (fun hHeld => ?_)
          focus (exact HB7.out)
          clear hK K
          (try simp only [Act.put, List.setIfInBounds_toArray, List.set_cons_zero, List.set_cons_succ])
          first
            | (refine wpAnyH_take (i := 11) (oi := { dst := _, op := _, type := _, pos := _, after := _, guard := _ }) (v := _) rfl (by kernel_rfl) (by kernel_rfl) (by kernel_rfl) (fun _ _ _ h => h) (Or.inr ⟨by rfl, rfl⟩) hHeld ?_; (try simp only [Act.put, List.setIfInBounds_toArray, List.set_cons_zero, List.set_cons_succ]))
            | (refine wpAnyH_take (i := 11) (oi := { dst := _, op := _, type := _, pos := _, after := _, guard := _ }) (v := ?_) rfl (by kernel_rfl) (by kernel_rfl) (by kernel_rfl) (fun _ _ _ h => h) (Or.inl ⟨by rfl, ?_⟩) hHeld ?_; rotate_left; (focus (intro wS hSw; (try dsimp only at hSw); go_simp; (try with_reducible rfl); done)); (try simp only [Act.put, List.setIfInBounds_toArray, List.set_cons_zero, List.set_cons_succ]))
          refine wpAnyH_done (by kernel_rfl) ?_ _
          clear HW6 ST7 HR6 HB6 HV6 HB5
          generalize w5.heap.size = A9 at *
          rcases HST.out with ⟨hc, hn⟩ | ⟨hc, hst2⟩
          · have hcb : (res.2 == 0) = false := beq_eq_false_iff_ne.2 hc
            generalize res.2 = code at *
            clear hc HDo
            go_wp2_with fail
            go_roundw
            case rel => exact ⟨k + 1, n, a1, a2, a3, k1, k2, k3, by omega, by omega, by go_num, HRn.out.below HB7.out, HVn.out.below HB7.out, HSt.out, HB.out.trans (HB7.out.mono HB.out.size)⟩
            case measure => simp [intOf]; omega
          · clear HDo
            have hcb : (res.2 == 0) = true := beq_iff_eq.2 hc
            have HS2 := Lib.hid hst2
            have m0 := HRm.out.at 0 _ rfl
            have m1 := HRm.out.at 1 _ rfl
            have m2 := HRm.out.at 2 _ rfl
            have m3 := HRm.out.at 3 _ rfl
            have m4 := HRm.out.at 4 _ rfl
            have m5 := HRm.out.at 5 _ rfl
            have m6 := HRm.out.at 6 _ rfl
            have m7 := HRm.out.at 7 _ rfl
            obtain ⟨w8, st8, hr8, hg8, _⟩ := run_store_row (P := Try.prog) (HRn.out.below HB7.out) 28 [.string res.1.name, .bool res.1.coll, .int .u8 res.1.access, .int .i64 res.1.max, .slice b1 res.1.affs.length l1, .slice b2 res.1.subs.length l2, .slice b3 res.1.items.length l3, .string res.1.parent] (sizeNode w7) rfl rfl (node_one _ _ _ _ _ _ _ _ rfl rfl rfl)
            have HV8 := Lib.hid (HVm.out.goneN (HRn.out.below HB7.out) hg8)
            have HB8 := Lib.hid (below_gone (HB.out.trans (HB7.out.mono HB.out.size)) hg8 (Nat.le_trans HB.out.size HB7.out.size) HA7.out)
            have HR8 := Lib.hid hr8
            have ST8 := Lib.hid st8
            clear st8 hr8 hg8 hst2 hc
            generalize res.2 = code at *
            go_wp2_with (refine wpList_store_run _ rfl 28 _ _ rfl _ _ rfl rfl ST8.out ?_)
            go_roundw
            case rel => exact ⟨k + 1, res.1, b1, b2, b3, l1, l2, l3, by omega, by omega, by go_num, HR8.out, HV8.out, HS2.out, HB8.out⟩
            case measure => simp [intOf]; omega
        · obtain ⟨w4', hw4, hB4, hr4, hs4⟩ := one wr 28 [.string ⟨#[]⟩, .bool false, .int .u8 0, .int .i64 0, .slice none 0 0, .slice none 0 0, .slice none 0 0, .string ⟨#[]⟩]
          have HW4 := Lib.hid hw4
          have hd4 : Below w4'.heap.size w4' w4'.drew := (Below.refl _ _).drew
          have HB4 : Hid (Below wr.heap.size wr w4'.drew) := hB4.trans (hd4.mono hB4.size)
          have HR4 : Hid (RowI w4'.drew wr.heap.size 28 8 [.string ⟨#[]⟩, .bool false, .int .u8 0, .int .i64 0, .slice none 0 0, .slice none 0 0, .slice none 0 0, .string ⟨#[]⟩]) := hr4.below hd4
          clear hw4 hB4 hr4 hs4 hd4
          go_simp
          rw [HW4.out]
          clear HW4
          generalize w4'.drew = w4 at *
          refine hK.out _ _ ?_ (fun hHeld => ?_)
          focus (exact HB4.out)
          clear hK K
          (try simp only [Act.put, List.setIfInBounds_toArray, List.set_cons_zero, List.set_cons_succ])
          refine wpAnyH_ready (rs := [5]) (by kernel_rfl) (by simp) ?_
          refine AllReadyH.cons (o := { dst := _, op := _, type := _, pos := _, after := _, guard := _ }) rfl (fun K hK => ?_) AllReadyH.nil
          go_simp
          go_at_call 12
          (with_reducible refine (HDo.out _ hHeld).mono ?_)
          rintro e w5 ⟨v5, rfl, hv5, hB5⟩
          have HB5 := Lib.hid (hHeld.trans (hB5.mono hHeld.size))
          obtain ⟨A5, S5, I5, rfl, hA5, hS5, hI5⟩ := hv5
          obtain ⟨b1, l1, rfl⟩ := hA5.form
          obtain ⟨b2, l2, rfl⟩ := hS5.form
          obtain ⟨b3, l3, rfl⟩ := hI5.form
          go_wp2_with fail
          have HR6 := Lib.hid (HR4.out.below hB5)
          have HV6 : Hid (NodeV w5 (.agg #[.string res.1.name, .bool res.1.coll, .int .u8 res.1.access, .int .i64 res.1.max, .slice b1 res.1.affs.length l1, .slice b2 res.1.subs.length l2, .slice b3 res.1.items.length l3, .string res.1.parent]) res.1) := ⟨_, _, _, rfl, hA5, hS5, hI5⟩
          have HLT : Hid (w1.heap.size ≠ wr.heap.size ∧ wr.heap.size ≤ wr.heap.size) := ⟨by have := HRn.out.lt; omega, Nat.le_refl _⟩
          have HB6 := HB5
          clear hA5 hS5 hI5 hB5
          obtain ⟨w7, st7, hr7, hg7, _⟩ := run_store_row (P := Try.prog) HR6.out 28 [.string res.1.name, .bool res.1.coll, .int .u8 res.1.access, .int .i64 res.1.max, .slice b1 res.1.affs.length l1, .slice b2 res.1.subs.length l2, .slice b3 res.1.items.length l3, .string res.1.parent] (sizeNode w5) rfl rfl (node_one _ _ _ _ _ _ _ _ rfl rfl rfl)
          have ST7 := Lib.hid st7
          have HB7 := Lib.hid (below_gone HB6.out hg7 HB6.out.size HLT.out.2)
          have HRm := Lib.hid hr7
          have HVm := Lib.hid (HV6.out.goneN HR6.out hg7)
          clear st7 hr7 hg7
          refine hK.out _ _ ?_ (fun hHeld => ?_)
          focus (exact HB5.out)
          clear hK K
          (try simp only [Act.put, List.setIfInBounds_toArray, List.set_cons_zero, List.set_cons_succ])
          first
            | (refine wpAnyH_take (i := 6) (oi := { dst := _, op := _, type := _, pos := _, after := _, guard := _ }) (v := _) rfl (by kernel_rfl) (by kernel_rfl) (by kernel_rfl) (fun _ _ _ h => h) (Or.inr ⟨by rfl, rfl⟩) hHeld ?_; (try simp only [Act.put, List.setIfInBounds_toArray, List.set_cons_zero, List.set_cons_succ]))
            | (refine wpAnyH_take (i := 6) (oi := { dst := _, op := _, type := _, pos := _, after := _, guard := _ }) (v := ?_) rfl (by kernel_rfl) (by kernel_rfl) (by kernel_rfl) (fun _ _ _ h => h) (Or.inl ⟨by rfl, ?_⟩) hHeld ?_; rotate_left; (focus (intro wS hSw; (try dsimp only at hSw); go_simp; (try with_reducible rfl); done)); (try simp only [Act.put, List.setIfInBounds_toArray, List.set_cons_zero, List.set_cons_succ]))
          first
            | (refine wpAnyH_take (i := 7) (oi := { dst := _, op := _, type := _, pos := _, after := _, guard := _ }) (v := _) rfl (by kernel_rfl) (by kernel_rfl) (by kernel_rfl) (fun _ _ _ h => h) (Or.inr ⟨by rfl, rfl⟩) hHeld ?_; (try simp only [Act.put, List.setIfInBounds_toArray, List.set_cons_zero, List.set_cons_succ]))
            | (refine wpAnyH_take (i := 7) (oi := { dst := _, op := _, type := _, pos := _, after := _, guard := _ }) (v := ?_) rfl (by kernel_rfl) (by kernel_rfl) (by kernel_rfl) (fun _ _ _ h => h) (Or.inl ⟨by rfl, ?_⟩) hHeld ?_; rotate_left; (focus (intro wS hSw; (try dsimp only at hSw); go_simp; (try with_reducible rfl); done)); (try simp only [Act.put, List.setIfInBounds_toArray, List.set_cons_zero, List.set_cons_succ]))
          first
            | (refine wpAnyH_take (i := 8) (oi := { dst := _, op := _, type := _, pos := _, after := _, guard := _ }) (v := _) rfl (by kernel_rfl) (by kernel_rfl) (by kernel_rfl) (fun _ _ _ h => h) (Or.inr ⟨by rfl, rfl⟩) hHeld ?_; (try simp only [Act.put, List.setIfInBounds_toArray, List.set_cons_zero, List.set_cons_succ]))
            | (refine wpAnyH_take (i := 8) (oi := { dst := _, op := _, type := _, pos := _, after := _, guard := _ }) (v := ?_) rfl (by kernel_rfl) (by kernel_rfl) (by kernel_rfl) (fun _ _ _ h => h) (Or.inl ⟨by rfl, ?_⟩) hHeld ?_; rotate_left; (focus (intro wS hSw; (try dsimp only at hSw); go_simp; (try with_reducible rfl); done)); (try simp only [Act.put, List.setIfInBounds_toArray, List.set_cons_zero, List.set_cons_succ]))
          refine wpAnyH_ready (rs := [10]) (by kernel_rfl) (by simp) ?_
          refine AllReadyH.cons (o := { dst := _, op := _, type := _, pos := _, after := _, guard := _ }) rfl (fun K hK => ?_) AllReadyH.nil
          rw [if_pos (by rfl)]
          refine wp_store_run _ 28 _ _ rfl _ _ rfl rfl ST7.out ?_
          refine hK.out _ _ ?_ (fun hHeld => ?_)
          focus (exact HB7.out)
          clear hK K
          (try simp only [Act.put, List.setIfInBounds_toArray, List.set_cons_zero, List.set_cons_succ])
          first
            | (refine wpAnyH_take (i := 11) (oi := { dst := _, op := _, type := _, pos := _, after := _, guard := _ }) (v := _) rfl (by kernel_rfl) (by kernel_rfl) (by kernel_rfl) (fun _ _ _ h => h) (Or.inr ⟨by rfl, rfl⟩) hHeld ?_; (try simp only [Act.put, List.setIfInBounds_toArray, List.set_cons_zero, List.set_cons_succ]))
            | (refine wpAnyH_take (i := 11) (oi := { dst := _, op := _, type := _, pos := _, after := _, guard := _ }) (v := ?_) rfl (by kernel_rfl) (by kernel_rfl) (by kernel_rfl) (fun _ _ _ h => h) (Or.inl ⟨by rfl, ?_⟩) hHeld ?_; rotate_left; (focus (intro wS hSw; (try dsimp only at hSw); go_simp; (try with_reducible rfl); done)); (try simp only [Act.put, List.setIfInBounds_toArray, List.set_cons_zero, List.set_cons_succ]))
          refine wpAnyH_done (by kernel_rfl) ?_ _
          clear ST7 HR6 HB6 HV6 HB5 HB4 HR4
          obtain ⟨A9, hA9⟩ : ∃ A9, A9 = wr.heap.size := ⟨_, rfl⟩
          rw [← hA9] at HRm HLT ⊢
          clear hA9
          rcases HST.out with ⟨hc, hn⟩ | ⟨hc, hst2⟩
          · have hcb : (res.2 == 0) = false := beq_eq_false_iff_ne.2 hc
            generalize res.2 = code at *
            clear hc HDo
            go_wp2_with fail
            go_roundw
            case rel => exact ⟨k + 1, n, a1, a2, a3, k1, k2, k3, by omega, by omega, by go_num, HRn.out.below HB7.out, HVn.out.below HB7.out, HSt.out, HB.out.trans (HB7.out.mono HB.out.size)⟩
            case measure => simp [intOf]; omega
          · clear HDo
            have hcb : (res.2 == 0) = true := beq_iff_eq.2 hc
            have HS2 := Lib.hid hst2
            have m0 := HRm.out.at 0 _ rfl
            have m1 := HRm.out.at 1 _ rfl
            have m2 := HRm.out.at 2 _ rfl
            have m3 := HRm.out.at 3 _ rfl
            have m4 := HRm.out.at 4 _ rfl
            have m5 := HRm.out.at 5 _ rfl
            have m6 := HRm.out.at 6 _ rfl
            have m7 := HRm.out.at 7 _ rfl
            obtain ⟨w8, st8, hr8, hg8, _⟩ := run_store_row (P := Try.prog) (HRn.out.below HB7.out) 28 [.string res.1.name, .bool res.1.coll, .int .u8 res.1.access, .int .i64 res.1.max, .slice b1 res.1.affs.length l1, .slice b2 res.1.subs.length l2, .slice b3 res.1.items.length l3, .string res.1.parent] (sizeNode w7) rfl rfl (node_one _ _ _ _ _ _ _ _ rfl rfl rfl)
            have HV8 := Lib.hid (HVm.out.goneN (HRn.out.below HB7.out) hg8)
            have HB8 := Lib.hid (below_gone (HB.out.trans (HB7.out.mono HB.out.size)) hg8 (Nat.le_trans HB.out.size HB7.out.size) HA7.out)
            have HR8 := Lib.hid hr8
            have ST8 := Lib.hid st8
            clear st8 hr8 hg8 hst2 hc
            generalize res.2 = code at *
            go_wp2_with (refine wpList_store_run _ rfl 28 _ _ rfl _ _ rfl rfl ST8.out ?_)
            go_roundw
            case rel => exact ⟨k + 1, res.1, b1, b2, b3, l1, l2, l3, by omega, by omega, by go_num, HR8.out, HV8.out, HS2.out, HB8.out⟩
            case measure => simp [intOf]; omega
      · have c40 : decide ((k : Int) < 20) = false := by rw [decide_eq_false_iff_not]; omega
        have HSu := Lib.hid (sub_any _ n who wr HVn.out (by have := HSt.out.bd.subs; omega))
        have c0 := HRn.out.at 0 _ rfl
        have c1 := HRn.out.at 1 _ rfl
        have c2 := HRn.out.at 2 _ rfl
        have c3 := HRn.out.at 3 _ rfl
        have c4 := HRn.out.at 4 _ rfl
        have c5 := HRn.out.at 5 _ rfl
        have c6 := HRn.out.at 6 _ rfl
        have c7 := HRn.out.at 7 _ rfl
        go_upto_region 8 with fail
        go_wp2_with fail
        (with_reducible refine HSu.out.mono ?_)
        rintro e w3 ⟨rfl, hB3⟩
        obtain ⟨w4, hw4, hB4, hr4, hs4⟩ := one w3 47 [.string (subN n who).1.jid, .bool (subN n who).1.pending, .int .i64 (subN n who).1.depth]
        have hB34 := hB3.trans (hB4.mono hB3.size)
        have HB4 := Lib.hid (HB.out.trans (hB34.mono HB.out.size))
        have HRa := Lib.hid (HRn.out.below hB34)
        have HVa := Lib.hid (HVn.out.below hB34)
        have HSb := Lib.hid hr4
        have HW4 := Lib.hid hw4
        clear hw4 hB4 hr4 hs4 hB34 hB3 HSu HB HRn HVn
        go_upto_region 9 with fail
        rw [HW4.out]
        clear HW4 c0 c1 c2 c3 c4 c5 c6 c7
        go_upto_region 11 with fail
        have c4 := HRa.out.at 4 _ rfl
        have hal : n.affs.length ≤ 1000 := HSt.out.bd.affs
        go_loopw [13, 14] (fun ov jv W => ∃ j : Nat, j ≤ n.affs.length ∧ jv = .int .i64 j ∧ ov = .string (lastOw (n.affs.take j)) ∧ W = w4) (fun _ jv _ => n.affs.length - (intOf jv).toNat)
        case atStart => exact ⟨0, Nat.zero_le _, rfl, rfl, rfl⟩
        case round =>
          obtain ⟨j, hj, rfl, rfl, rfl⟩ := hrel
          by_cases hjl : j < n.affs.length
          · have cj : decide ((j : Int) < (n.affs.length : Int)) = true := by rw [decide_eq_true_eq]; omega
            have hA4 : SlE PAff.enc 2 wr (.slice a1 n.affs.length k1) n.affs := by
              obtain ⟨_, _, _, e, hA, _, _⟩ := HVa.out
              cases e
              exact hA
            obtain ⟨g3, off3, hb3, hcell⟩ := hA4.at j hjl
            have s0 : wr.cell? ⟨g3, off3 + j * 2, none⟩ = some (.string n.affs[j].jid) := hcell 0 (by decide)
            have s1 : wr.cell? ⟨g3, off3 + j * 2 + 1, none⟩ = some (.int .u8 n.affs[j].role) := hcell 1 (by decide)
            have HLT := Lib.hid (lastOw_take hjl)
            generalize n.affs[j] = y at *
            subst hb3
            clear hA4 hcell
            cases h5 : (y.role == 5) with
            | true =>
              have HF : Hid (lastOw (n.affs.take (j + 1)) = y.jid) := by show _ = _; rw [HLT.out, h5]; rfl
              clear HLT
              generalize y.role = yr at *
              generalize y.jid = yj at *
              go_wp2_with fail
              go_roundw
              case rel => exact ⟨j + 1, by omega, by go_num, by rw [HF.out], by first | rfl | trivial⟩
              case measure => simp [intOf]; omega
            | false =>
              have HF : Hid (lastOw (n.affs.take (j + 1)) = lastOw (n.affs.take j)) := by show _ = _; rw [HLT.out, h5]; rfl
              clear HLT
              generalize y.role = yr at *
              generalize y.jid = yj at *
              go_wp2_with fail
              go_roundw
              case rel => exact ⟨j + 1, by omega, by go_num, by rw [HF.out], by first | rfl | trivial⟩
              case measure => simp [intOf]; omega
          · have cj : decide ((j : Int) < (n.affs.length : Int)) = false := by rw [decide_eq_false_iff_not]; omega
            have hjw : j = n.affs.length := by omega
            subst hjw
            rw [List.take_length]
            have hlw := decides_law HSt.out.right (lastOw n.affs) who yes (owner_role HSt.out.right)
            have HDe := Lib.hid (decide_any _ n (lastOw n.affs) who yes wr HVa.out HSt.out.bd)
            have HDR : Hid ((decideN pr n (lastOw n.affs) who yes).2 = 0 → Bd (decideN pr n (lastOw n.affs) who yes).1) := fun h => (bd_do (n := n) (x := ⟨2, lastOw n.affs, who, 0, 0, yes, 0, 0, ⟨#[]⟩, ⟨#[]⟩⟩) HSt.out.bd ⟨HSw.out, (lastOw_sm HSt.out), show Sm (⟨#[]⟩ : ByteArray) by decide, show Sm (⟨#[]⟩ : ByteArray) by decide⟩ h).2
            have HLw := Lib.hid hlw
            have HSb2 := HSb
            clear hlw
            have c0 := HRa.out.at 0 _ rfl
            have c1 := HRa.out.at 1 _ rfl
            have c2 := HRa.out.at 2 _ rfl
            have c3 := HRa.out.at 3 _ rfl
            have c4 := HRa.out.at 4 _ rfl
            have c5 := HRa.out.at 5 _ rfl
            have c6 := HRa.out.at 6 _ rfl
            have c7 := HRa.out.at 7 _ rfl
            generalize lastOw n.affs = ow at *
            go_wp2_with fail
            (with_reducible refine HDe.out.mono ?_)
            rintro e w5 ⟨v5, rfl, hv5, hB5⟩
            generalize hres : decideN pr n ow who yes = res at *
            obtain ⟨A5, S5, I5, rfl, hA5, hS5, hI5⟩ := hv5
            obtain ⟨b1, l1, rfl⟩ := hA5.form
            obtain ⟨b2, l2, rfl⟩ := hS5.form
            obtain ⟨b3, l3, rfl⟩ := hI5.form
            obtain ⟨w6, hw6, hB6, hr6, hs6⟩ := one w5 28 [.string res.1.name, .bool res.1.coll, .int .u8 res.1.access, .int .i64 res.1.max, .slice b1 res.1.affs.length l1, .slice b2 res.1.subs.length l2, .slice b3 res.1.items.length l3, .string res.1.parent]
            have hB56 := hB5.trans (hB6.mono hB5.size)
            have HB6 := Lib.hid (HB4.out.trans (hB56.mono HB4.out.size))
            have HV6 : Hid (NodeV w6 (.agg #[.string res.1.name, .bool res.1.coll, .int .u8 res.1.access, .int .i64 res.1.max, .slice b1 res.1.affs.length l1, .slice b2 res.1.subs.length l2, .slice b3 res.1.items.length l3, .string res.1.parent]) res.1) := NodeV.below ⟨_, _, _, rfl, hA5, hS5, hI5⟩ hB6
            have HR6 := Lib.hid hr6
            have HSb6 := Lib.hid (HSb.out.below hB56)
            have HRES : Hid (res = res) := rfl
            have HW6 := Lib.hid hw6
            have z1 := HSb6.out.at 1 _ rfl
            clear hw6 hB6 hr6 hs6 hB56 hA5 hS5 hI5 hB5 HDe hres c0 c1 c2 c3 c4 c5 c6 c7 HSb HSb2 HB4
            go_upto_region 16 with fail
            rw [HW6.out]
            clear HW6
            cases his : (subN n who).2 with
            | false =>
              have hno := HLw.out.1 (.inl his)
              have f0 : w6.cell? ⟨w5.heap.size, 0, none⟩ = some (.string ⟨#[]⟩) := by
                have := HR6.out.at 0 _ rfl
                rw [hno] at this
                exact this
              have hcd : (res.2 == 4) = true := by rw [hno]; rfl
              clear hno
              skip
              generalize res.2 = code at *
              go_wp2_with fail
              (with_reducible refine (HLV.out w6).mono ?_)
              rintro e w9 ⟨rfl, hB9⟩
              have HB9 := Lib.hid (HB6.out.trans (hB9.mono HB6.out.size))
              have g0 := (hB9.cell (p := ⟨w5.heap.size, 0, none⟩) HR6.out.lt).trans f0
              clear hB9
              go_wp2_with fail
              go_returns
              exact ⟨rfl, HB9.out⟩
            | true =>
            cases hpe : (subN n who).1.pending with
            | false =>
              have hno := HLw.out.1 (.inr hpe)
              have f0 : w6.cell? ⟨w5.heap.size, 0, none⟩ = some (.string ⟨#[]⟩) := by
                have := HR6.out.at 0 _ rfl
                rw [hno] at this
                exact this
              have hcd : (res.2 == 4) = true := by rw [hno]; rfl
              clear hno
              rw [hpe] at z1
              generalize res.2 = code at *
              go_wp2_with fail
              (with_reducible refine (HLV.out w6).mono ?_)
              rintro e w9 ⟨rfl, hB9⟩
              have HB9 := Lib.hid (HB6.out.trans (hB9.mono HB6.out.size))
              have g0 := (hB9.cell (p := ⟨w5.heap.size, 0, none⟩) HR6.out.lt).trans f0
              clear hB9
              go_wp2_with fail
              go_returns
              exact ⟨rfl, HB9.out⟩
            | true =>
            rw [hpe] at z1
            obtain ⟨hc, hdd⟩ := HLw.out.2 his hpe
            have HDd := Lib.hid hdd
            have hbd6 := HDR.out hc
            have hcd : (res.2 == 0) = true := beq_iff_eq.2 hc
            have hsu6 := sub_any _ res.1 who w6 HV6.out (by have := hbd6.subs; omega)
            rw [hdd.has, hdd.pend] at hsu6
            have HSu6 := Lib.hid hsu6
            have HDe6 : Hid (∀ W, Below w6.heap.size w6 W → Calls Try.prog 17 #[.agg #[.string res.1.name, .bool res.1.coll, .int .u8 res.1.access, .int .i64 res.1.max, .slice b1 res.1.affs.length l1, .slice b2 res.1.subs.length l2, .slice b3 res.1.items.length l3, .string res.1.parent], .string ow, .string who, .bool yes] W fun e w' => ∃ v', e = .returned (.tuple #[v', .int .i64 4]) ∧ NodeV w' v' (decideN pr res.1 ow who yes).1 ∧ Below W.heap.size W w') := fun W hW => by
              have := decide_any _ res.1 ow who yes W (HV6.out.below hW) hbd6
              rw [hdd.again] at this
              exact this
            generalize res.2 = code at *
            have q0 := HR6.out.at 0 _ rfl
            have q1 := HR6.out.at 1 _ rfl
            have q2 := HR6.out.at 2 _ rfl
            have q3 := HR6.out.at 3 _ rfl
            have q4 := HR6.out.at 4 _ rfl
            have q5 := HR6.out.at 5 _ rfl
            have q6 := HR6.out.at 6 _ rfl
            have q7 := HR6.out.at 7 _ rfl
            clear hdd hbd6 hsu6 hc HLw HDR his hpe
            generalize (subN res.1 who).1.jid = mj at *
            generalize hmd : (subN res.1 who).1.depth = md at *
            go_wp2_with fail
            (with_reducible refine HSu6.out.mono ?_)
            rintro e w7 ⟨rfl, hB7⟩
            obtain ⟨w8, hw8, hB8, hr8, hs8⟩ := one w7 47 [.string mj, .bool false, .int .i64 md]
            have hB78 := hB7.trans (hB8.mono hB7.size)
            have HB8 := Lib.hid (HB6.out.trans (hB78.mono HB6.out.size))
            have HR8 := Lib.hid (HR6.out.below hB78)
            have HSm8 := Lib.hid hr8
            have HSb8 := Lib.hid (HSb6.out.below hB78)
            have HDe8 := Lib.hid (HDe6.out w8 hB78)
            have HW8 := Lib.hid hw8
            clear hw8 hB8 hr8 hs8 hB78 hB7 HSu6 HDe6 q0 q1 q2 q3 q4 q5 q6 q7
            have q0 := HR8.out.at 0 _ rfl
            have q1 := HR8.out.at 1 _ rfl
            have q2 := HR8.out.at 2 _ rfl
            have q3 := HR8.out.at 3 _ rfl
            have q4 := HR8.out.at 4 _ rfl
            have q5 := HR8.out.at 5 _ rfl
            have q6 := HR8.out.at 6 _ rfl
            have q7 := HR8.out.at 7 _ rfl
            go_upto_region 19 with fail
            rw [HW8.out]
            clear HW8
            go_wp2_with fail
            (with_reducible refine HDe8.out.mono ?_)
            rintro e wa ⟨va, rfl, hva, hBa⟩
            obtain ⟨Aa, Sa, Ia, rfl, hAa, hSa, hIa⟩ := hva
            obtain ⟨x1, y1, rfl⟩ := hAa.form
            obtain ⟨x2, y2, rfl⟩ := hSa.form
            obtain ⟨x3, y3, rfl⟩ := hIa.form
            generalize (decideN pr res.1 ow who yes).1 = u at *
            obtain ⟨wb, hwb, hBb, hrb, hsb⟩ := one wa 28 [.string u.name, .bool u.coll, .int .u8 u.access, .int .i64 u.max, .slice x1 u.affs.length y1, .slice x2 u.subs.length y2, .slice x3 u.items.length y3, .string u.parent]
            have hBab := hBa.trans (hBb.mono hBa.size)
            have HBb := Lib.hid (HB8.out.trans (hBab.mono HB8.out.size))
            have HSmb := Lib.hid (HSm8.out.below hBab)
            have HSbb := Lib.hid (HSb8.out.below hBab)
            have HWb := Lib.hid hwb
            clear hwb hBb hrb hsb hBab hBa hAa hSa hIa HDe8 q0 q1 q2 q3 q4 q5 q6 q7
            go_upto_region 20 with fail
            rw [HWb.out]
            clear HWb
            go_wp2_with fail
            (with_reducible refine (HLV.out wb).mono ?_)
            rintro e w9 ⟨rfl, hB9⟩
            have HB9 := Lib.hid (HBb.out.trans (hB9.mono HBb.out.size))
            have t1 := (HSmb.out.below hB9).at 1 _ rfl
            have t2 := (HSmb.out.below hB9).at 2 _ rfl
            have r2 := (HSbb.out.below hB9).at 2 _ rfl
            have hbb : (yes == yes) = true := by cases yes <;> rfl
            clear hB9
            cases yes with
            | true =>
              have hde := HDd.out.depth rfl
              rw [hmd] at hde
              rw [← hde] at r2
              have hdd2 : (md == md) = true := by simp
              go_wp2_with fail
              go_returns
              exact ⟨rfl, HB9.out⟩
            | false =>
              go_wp2_with fail
              go_returns
              exact ⟨rfl, HB9.out⟩
    · have ck : decide ((k : Int) < (l.length : Int)) = false := by rw [decide_eq_false_iff_not]; omega
      have HSu := Lib.hid (sub_any _ n who wr HVn.out (by have := HSt.out.bd.subs; omega))
      have c0 := HRn.out.at 0 _ rfl
      have c1 := HRn.out.at 1 _ rfl
      have c2 := HRn.out.at 2 _ rfl
      have c3 := HRn.out.at 3 _ rfl
      have c4 := HRn.out.at 4 _ rfl
      have c5 := HRn.out.at 5 _ rfl
      have c6 := HRn.out.at 6 _ rfl
      have c7 := HRn.out.at 7 _ rfl
      go_upto_region 8 with fail
      go_wp2_with fail
      (with_reducible refine HSu.out.mono ?_)
      rintro e w3 ⟨rfl, hB3⟩
      obtain ⟨w4, hw4, hB4, hr4, hs4⟩ := one w3 47 [.string (subN n who).1.jid, .bool (subN n who).1.pending, .int .i64 (subN n who).1.depth]
      have hB34 := hB3.trans (hB4.mono hB3.size)
      have HB4 := Lib.hid (HB.out.trans (hB34.mono HB.out.size))
      have HRa := Lib.hid (HRn.out.below hB34)
      have HVa := Lib.hid (HVn.out.below hB34)
      have HSb := Lib.hid hr4
      have HW4 := Lib.hid hw4
      clear hw4 hB4 hr4 hs4 hB34 hB3 HSu HB HRn HVn
      go_upto_region 9 with fail
      rw [HW4.out]
      clear HW4 c0 c1 c2 c3 c4 c5 c6 c7
      go_upto_region 11 with fail
      have c4 := HRa.out.at 4 _ rfl
      have hal : n.affs.length ≤ 1000 := HSt.out.bd.affs
      go_loopw [13, 14] (fun ov jv W => ∃ j : Nat, j ≤ n.affs.length ∧ jv = .int .i64 j ∧ ov = .string (lastOw (n.affs.take j)) ∧ W = w4) (fun _ jv _ => n.affs.length - (intOf jv).toNat)
      case atStart => exact ⟨0, Nat.zero_le _, rfl, rfl, rfl⟩
      case round =>
        obtain ⟨j, hj, rfl, rfl, rfl⟩ := hrel
        by_cases hjl : j < n.affs.length
        · have cj : decide ((j : Int) < (n.affs.length : Int)) = true := by rw [decide_eq_true_eq]; omega
          have hA4 : SlE PAff.enc 2 wr (.slice a1 n.affs.length k1) n.affs := by
            obtain ⟨_, _, _, e, hA, _, _⟩ := HVa.out
            cases e
            exact hA
          obtain ⟨g3, off3, hb3, hcell⟩ := hA4.at j hjl
          have s0 : wr.cell? ⟨g3, off3 + j * 2, none⟩ = some (.string n.affs[j].jid) := hcell 0 (by decide)
          have s1 : wr.cell? ⟨g3, off3 + j * 2 + 1, none⟩ = some (.int .u8 n.affs[j].role) := hcell 1 (by decide)
          have HLT := Lib.hid (lastOw_take hjl)
          generalize n.affs[j] = y at *
          subst hb3
          clear hA4 hcell
          cases h5 : (y.role == 5) with
          | true =>
            have HF : Hid (lastOw (n.affs.take (j + 1)) = y.jid) := by show _ = _; rw [HLT.out, h5]; rfl
            clear HLT
            generalize y.role = yr at *
            generalize y.jid = yj at *
            go_wp2_with fail
            go_roundw
            case rel => exact ⟨j + 1, by omega, by go_num, by rw [HF.out], by first | rfl | trivial⟩
            case measure => simp [intOf]; omega
          | false =>
            have HF : Hid (lastOw (n.affs.take (j + 1)) = lastOw (n.affs.take j)) := by show _ = _; rw [HLT.out, h5]; rfl
            clear HLT
            generalize y.role = yr at *
            generalize y.jid = yj at *
            go_wp2_with fail
            go_roundw
            case rel => exact ⟨j + 1, by omega, by go_num, by rw [HF.out], by first | rfl | trivial⟩
            case measure => simp [intOf]; omega
        · have cj : decide ((j : Int) < (n.affs.length : Int)) = false := by rw [decide_eq_false_iff_not]; omega
          have hjw : j = n.affs.length := by omega
          subst hjw
          rw [List.take_length]
          have hlw := decides_law HSt.out.right (lastOw n.affs) who yes (owner_role HSt.out.right)
          have HDe := Lib.hid (decide_any _ n (lastOw n.affs) who yes wr HVa.out HSt.out.bd)
          have HDR : Hid ((decideN pr n (lastOw n.affs) who yes).2 = 0 → Bd (decideN pr n (lastOw n.affs) who yes).1) := fun h => (bd_do (n := n) (x := ⟨2, lastOw n.affs, who, 0, 0, yes, 0, 0, ⟨#[]⟩, ⟨#[]⟩⟩) HSt.out.bd ⟨HSw.out, (lastOw_sm HSt.out), show Sm (⟨#[]⟩ : ByteArray) by decide, show Sm (⟨#[]⟩ : ByteArray) by decide⟩ h).2
          have HLw := Lib.hid hlw
          have HSb2 := HSb
          clear hlw
          have c0 := HRa.out.at 0 _ rfl
          have c1 := HRa.out.at 1 _ rfl
          have c2 := HRa.out.at 2 _ rfl
          have c3 := HRa.out.at 3 _ rfl
          have c4 := HRa.out.at 4 _ rfl
          have c5 := HRa.out.at 5 _ rfl
          have c6 := HRa.out.at 6 _ rfl
          have c7 := HRa.out.at 7 _ rfl
          generalize lastOw n.affs = ow at *
          go_wp2_with fail
          (with_reducible refine HDe.out.mono ?_)
          rintro e w5 ⟨v5, rfl, hv5, hB5⟩
          generalize hres : decideN pr n ow who yes = res at *
          obtain ⟨A5, S5, I5, rfl, hA5, hS5, hI5⟩ := hv5
          obtain ⟨b1, l1, rfl⟩ := hA5.form
          obtain ⟨b2, l2, rfl⟩ := hS5.form
          obtain ⟨b3, l3, rfl⟩ := hI5.form
          obtain ⟨w6, hw6, hB6, hr6, hs6⟩ := one w5 28 [.string res.1.name, .bool res.1.coll, .int .u8 res.1.access, .int .i64 res.1.max, .slice b1 res.1.affs.length l1, .slice b2 res.1.subs.length l2, .slice b3 res.1.items.length l3, .string res.1.parent]
          have hB56 := hB5.trans (hB6.mono hB5.size)
          have HB6 := Lib.hid (HB4.out.trans (hB56.mono HB4.out.size))
          have HV6 : Hid (NodeV w6 (.agg #[.string res.1.name, .bool res.1.coll, .int .u8 res.1.access, .int .i64 res.1.max, .slice b1 res.1.affs.length l1, .slice b2 res.1.subs.length l2, .slice b3 res.1.items.length l3, .string res.1.parent]) res.1) := NodeV.below ⟨_, _, _, rfl, hA5, hS5, hI5⟩ hB6
          have HR6 := Lib.hid hr6
          have HSb6 := Lib.hid (HSb.out.below hB56)
          have HRES : Hid (res = res) := rfl
          have HW6 := Lib.hid hw6
          have z1 := HSb6.out.at 1 _ rfl
          clear hw6 hB6 hr6 hs6 hB56 hA5 hS5 hI5 hB5 HDe hres c0 c1 c2 c3 c4 c5 c6 c7 HSb HSb2 HB4
          go_upto_region 16 with fail
          rw [HW6.out]
          clear HW6
          cases his : (subN n who).2 with
          | false =>
            have hno := HLw.out.1 (.inl his)
            have f0 : w6.cell? ⟨w5.heap.size, 0, none⟩ = some (.string ⟨#[]⟩) := by
              have := HR6.out.at 0 _ rfl
              rw [hno] at this
              exact this
            have hcd : (res.2 == 4) = true := by rw [hno]; rfl
            clear hno
            skip
            generalize res.2 = code at *
            go_wp2_with fail
            (with_reducible refine (HLV.out w6).mono ?_)
            rintro e w9 ⟨rfl, hB9⟩
            have HB9 := Lib.hid (HB6.out.trans (hB9.mono HB6.out.size))
            have g0 := (hB9.cell (p := ⟨w5.heap.size, 0, none⟩) HR6.out.lt).trans f0
            clear hB9
            go_wp2_with fail
            go_returns
            exact ⟨rfl, HB9.out⟩
          | true =>
          cases hpe : (subN n who).1.pending with
          | false =>
            have hno := HLw.out.1 (.inr hpe)
            have f0 : w6.cell? ⟨w5.heap.size, 0, none⟩ = some (.string ⟨#[]⟩) := by
              have := HR6.out.at 0 _ rfl
              rw [hno] at this
              exact this
            have hcd : (res.2 == 4) = true := by rw [hno]; rfl
            clear hno
            rw [hpe] at z1
            generalize res.2 = code at *
            go_wp2_with fail
            (with_reducible refine (HLV.out w6).mono ?_)
            rintro e w9 ⟨rfl, hB9⟩
            have HB9 := Lib.hid (HB6.out.trans (hB9.mono HB6.out.size))
            have g0 := (hB9.cell (p := ⟨w5.heap.size, 0, none⟩) HR6.out.lt).trans f0
            clear hB9
            go_wp2_with fail
            go_returns
            exact ⟨rfl, HB9.out⟩
          | true =>
          rw [hpe] at z1
          obtain ⟨hc, hdd⟩ := HLw.out.2 his hpe
          have HDd := Lib.hid hdd
          have hbd6 := HDR.out hc
          have hcd : (res.2 == 0) = true := beq_iff_eq.2 hc
          have hsu6 := sub_any _ res.1 who w6 HV6.out (by have := hbd6.subs; omega)
          rw [hdd.has, hdd.pend] at hsu6
          have HSu6 := Lib.hid hsu6
          have HDe6 : Hid (∀ W, Below w6.heap.size w6 W → Calls Try.prog 17 #[.agg #[.string res.1.name, .bool res.1.coll, .int .u8 res.1.access, .int .i64 res.1.max, .slice b1 res.1.affs.length l1, .slice b2 res.1.subs.length l2, .slice b3 res.1.items.length l3, .string res.1.parent], .string ow, .string who, .bool yes] W fun e w' => ∃ v', e = .returned (.tuple #[v', .int .i64 4]) ∧ NodeV w' v' (decideN pr res.1 ow who yes).1 ∧ Below W.heap.size W w') := fun W hW => by
            have := decide_any _ res.1 ow who yes W (HV6.out.below hW) hbd6
            rw [hdd.again] at this
            exact this
          generalize res.2 = code at *
          have q0 := HR6.out.at 0 _ rfl
          have q1 := HR6.out.at 1 _ rfl
          have q2 := HR6.out.at 2 _ rfl
          have q3 := HR6.out.at 3 _ rfl
          have q4 := HR6.out.at 4 _ rfl
          have q5 := HR6.out.at 5 _ rfl
          have q6 := HR6.out.at 6 _ rfl
          have q7 := HR6.out.at 7 _ rfl
          clear hdd hbd6 hsu6 hc HLw HDR his hpe
          generalize (subN res.1 who).1.jid = mj at *
          generalize hmd : (subN res.1 who).1.depth = md at *
          go_wp2_with fail
          (with_reducible refine HSu6.out.mono ?_)
          rintro e w7 ⟨rfl, hB7⟩
          obtain ⟨w8, hw8, hB8, hr8, hs8⟩ := one w7 47 [.string mj, .bool false, .int .i64 md]
          have hB78 := hB7.trans (hB8.mono hB7.size)
          have HB8 := Lib.hid (HB6.out.trans (hB78.mono HB6.out.size))
          have HR8 := Lib.hid (HR6.out.below hB78)
          have HSm8 := Lib.hid hr8
          have HSb8 := Lib.hid (HSb6.out.below hB78)
          have HDe8 := Lib.hid (HDe6.out w8 hB78)
          have HW8 := Lib.hid hw8
          clear hw8 hB8 hr8 hs8 hB78 hB7 HSu6 HDe6 q0 q1 q2 q3 q4 q5 q6 q7
          have q0 := HR8.out.at 0 _ rfl
          have q1 := HR8.out.at 1 _ rfl
          have q2 := HR8.out.at 2 _ rfl
          have q3 := HR8.out.at 3 _ rfl
          have q4 := HR8.out.at 4 _ rfl
          have q5 := HR8.out.at 5 _ rfl
          have q6 := HR8.out.at 6 _ rfl
          have q7 := HR8.out.at 7 _ rfl
          go_upto_region 19 with fail
          rw [HW8.out]
          clear HW8
          go_wp2_with fail
          (with_reducible refine HDe8.out.mono ?_)
          rintro e wa ⟨va, rfl, hva, hBa⟩
          obtain ⟨Aa, Sa, Ia, rfl, hAa, hSa, hIa⟩ := hva
          obtain ⟨x1, y1, rfl⟩ := hAa.form
          obtain ⟨x2, y2, rfl⟩ := hSa.form
          obtain ⟨x3, y3, rfl⟩ := hIa.form
          generalize (decideN pr res.1 ow who yes).1 = u at *
          obtain ⟨wb, hwb, hBb, hrb, hsb⟩ := one wa 28 [.string u.name, .bool u.coll, .int .u8 u.access, .int .i64 u.max, .slice x1 u.affs.length y1, .slice x2 u.subs.length y2, .slice x3 u.items.length y3, .string u.parent]
          have hBab := hBa.trans (hBb.mono hBa.size)
          have HBb := Lib.hid (HB8.out.trans (hBab.mono HB8.out.size))
          have HSmb := Lib.hid (HSm8.out.below hBab)
          have HSbb := Lib.hid (HSb8.out.below hBab)
          have HWb := Lib.hid hwb
          clear hwb hBb hrb hsb hBab hBa hAa hSa hIa HDe8 q0 q1 q2 q3 q4 q5 q6 q7
          go_upto_region 20 with fail
          rw [HWb.out]
          clear HWb
          go_wp2_with fail
          (with_reducible refine (HLV.out wb).mono ?_)
          rintro e w9 ⟨rfl, hB9⟩
          have HB9 := Lib.hid (HBb.out.trans (hB9.mono HBb.out.size))
          have t1 := (HSmb.out.below hB9).at 1 _ rfl
          have t2 := (HSmb.out.below hB9).at 2 _ rfl
          have r2 := (HSbb.out.below hB9).at 2 _ rfl
          have hbb : (yes == yes) = true := by cases yes <;> rfl
          clear hB9
          cases yes with
          | true =>
            have hde := HDd.out.depth rfl
            rw [hmd] at hde
            rw [← hde] at r2
            have hdd2 : (md == md) = true := by simp
            go_wp2_with fail
            go_returns
            exact ⟨rfl, HB9.out⟩
          | false =>
            go_wp2_with fail
            go_returns
            exact ⟨rfl, HB9.out⟩
end Go.Proofs.Ytpjaopcgoaannaa
