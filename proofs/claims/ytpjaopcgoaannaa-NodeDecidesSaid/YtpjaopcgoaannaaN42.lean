/- NodeStays: the walk. Written by gen_n42.py. -/
import Derived.Test.YtpjaopcgoaannaaN23
import Derived.Test.YtpjaopcgoaannaaN24
import Derived.Test.YtpjaopcgoaannaaN33
import Derived.Test.YtpjaopcgoaannaaN39
import Derived.Test.YtpjaopcgoaannaaN40
import Derived.Deep.RegionHeld3
namespace Go.Proofs.Ytpjaopcgoaannaa
open Go.RowKit Go.Lib
open Hb

theorem begun_right (a : Int) (leaf : Bool) : RightP pr (begunN a leaf) := by
  have h3 : a % 3 = 0 ∨ a % 3 = 1 ∨ a % 3 = 2 := by omega
  have e : begunN a leaf = begunN (a % 3) leaf := by unfold begunN; rw [Int.emod_emod_of_dvd _ (Int.dvd_refl 3)]
  rw [e]
  refine (right_iff pr _).1 ?_
  rcases h3 with h | h | h <;> rw [h] <;> cases leaf <;> decide +kernel
/-- what is so at every turn of the law -/
structure Stay (leaf : Bool) (n : PNode) : Prop where
  right : RightP pr n
  bd : Bd n
  name : n.name = ⟨#[110]⟩
  coll : n.coll = !leaf
  parent : n.parent = ⟨#[]⟩
  out : NoOut n
theorem begun_stay (a : Int) (leaf : Bool) : Stay leaf (begunN a leaf) :=
  ⟨begun_right a leaf, ⟨(by decide : Sm (begunN 0 true).name), (by decide : Sm (begunN 0 true).parent), fun x hx => (by have h := hx; simp [begunN] at h; subst h; decide), fun _ h => (by cases h), fun _ h => (by cases h), (by decide : 1 ≤ 1000), (by decide : 0 ≤ 1000), (by decide : 0 ≤ 1000)⟩, rfl, rfl, rfl, fun _ h => by cases h⟩
theorem Stay.step {leaf : Bool} {n : PNode} (h : Stay leaf n) {x : PEdit} (hx : SmX x) : ((doN pr n x).2 ≠ 0 ∧ (doN pr n x).1 = noNode) ∨ ((doN pr n x).2 = 0 ∧ Stay leaf (doN pr n x).1) := by
  rcases do_done h.right x with ⟨h1, h2⟩ | ⟨h1, h2, ⟨h3, h4, h5⟩, h6⟩
  · exact .inl ⟨h1, h2⟩
  · exact .inr ⟨h1, h2, (bd_do h.bd hx h1).2, h3.trans h.name, h4.trans h.coll, h5.trans h.parent, h6 h.out⟩

set_option maxRecDepth 100000 in
set_option maxHeartbeats 8000000 in
theorem nodeStays_row (w : World) (ac : Int) (hac : (Lit.int .u8 ac).wf = true) (leaf : Bool) (vl : Value) (l : List PEdit) (hl : SlE PEdit.enc 10 w vl l) (hll : l.length ≤ maxLen) (hx : ∀ x ∈ l, SmX x) :
    Calls Try.prog 4 #[.int .u8 ac, .bool leaf, vl] w fun e w' => e = .returned (.bool true) ∧ Below w.heap.size w w' := by
  obtain ⟨al, cl, rfl⟩ := hl.form
  have HBe := Lib.hid (begun_any ac leaf w (u8_rng hac).1 (u8_rng hac).2)
  have HS0 := Lib.hid (begun_stay ac leaf)
  generalize begunN ac leaf = n0 at *
  have HL := Lib.hid hl
  have HX := Lib.hid hx
  have HLV := Lib.hid (live_any)
  have mixed : Try.prog.follows .mixedOrders = true := by kernel_rfl
  clear hl hll hx hac
  go_enter Try.func4, Try.ntmps4
  go_wp2_with fail
  (with_reducible refine HBe.out.mono ?_)
  rintro e w1 ⟨v1, rfl, hv1, hB1⟩
  obtain ⟨A1, S1, I1, rfl, hA1, hS1, hI1⟩ := hv1
  obtain ⟨a1, k1, rfl⟩ := hA1.form
  obtain ⟨a2, k2, rfl⟩ := hS1.form
  obtain ⟨a3, k3, rfl⟩ := hI1.form
  obtain ⟨w2, hw2, hB2, hr2, hs2⟩ := one w1 28 [.string n0.name, .bool n0.coll, .int .u8 n0.access, .int .i64 n0.max, .slice a1 n0.affs.length k1, .slice a2 n0.subs.length k2, .slice a3 n0.items.length k3, .string n0.parent]
  have HV2 : Hid (NodeV w2 (.agg #[.string n0.name, .bool n0.coll, .int .u8 n0.access, .int .i64 n0.max, .slice a1 n0.affs.length k1, .slice a2 n0.subs.length k2, .slice a3 n0.items.length k3, .string n0.parent]) n0) := NodeV.below ⟨_, _, _, rfl, hA1, hS1, hI1⟩ hB2
  have HB2 := Lib.hid (hB1.trans (hB2.mono hB1.size))
  have HR2 := Lib.hid hr2
  have HW2 := Lib.hid hw2
  have HA7 : Hid (w.heap.size ≤ w1.heap.size) := hB1.size
  clear hw2 hB2 hr2 hs2 hA1 hS1 hI1 hB1 HBe
  go_upto_region 3 with fail
  rw [HW2.out]
  clear HW2
  go_loopw [8] (fun iv W => ∃ (k : Nat) (n : PNode) (a1 a2 a3 : Option Addr) (k1 k2 k3 : Nat), k ≤ l.length ∧ k ≤ 40 ∧ iv = .int .i64 k ∧ Hid (RowI W w1.heap.size 28 8 [.string n.name, .bool n.coll, .int .u8 n.access, .int .i64 n.max, .slice a1 n.affs.length k1, .slice a2 n.subs.length k2, .slice a3 n.items.length k3, .string n.parent]) ∧ Hid (NodeV W (.agg #[.string n.name, .bool n.coll, .int .u8 n.access, .int .i64 n.max, .slice a1 n.affs.length k1, .slice a2 n.subs.length k2, .slice a3 n.items.length k3, .string n.parent]) n) ∧ Hid (Stay leaf n) ∧ Hid (Below w.heap.size w W)) (fun iv _ => l.length - (intOf iv).toNat)
  case atStart => exact ⟨0, n0, a1, a2, a3, k1, k2, k3, Nat.zero_le _, by decide, rfl, HR2.out, HV2.out, HS0.out, HB2.out⟩
  case round =>
    obtain ⟨k, n, a1, a2, a3, k1, k2, k3, hk, hk4, rfl, HRn, HVn, HSt, HB⟩ := hrel
    by_cases hlt : k < l.length
    · have ck : decide ((k : Int) < (l.length : Int)) = true := by rw [decide_eq_true_eq]; omega
      by_cases h40 : k < 40
      · have c40 : decide ((k : Int) < 40) = true := by rw [decide_eq_true_eq]; omega
        obtain ⟨g, off, hag, hcell⟩ := (HL.out.below HB.out).at k hlt
        subst hag
        have hgl : g < wr.heap.size := by
          obtain ⟨_, _, e, _, hx⟩ := HL.out.below HB.out
          injection e with e1 e2 e3
          rcases hx with hx | ⟨g', o', ha, hg, _⟩
          · rw [hx] at hlt; cases hlt
          · rw [ha] at e1; cases e1; exact hg
        have hsx := HX.out l[k] (List.getElem_mem hlt)
        generalize l[k] = x at hcell hsx
        have hst := HSt.out.step hsx
        have HDo : Hid (∀ W, Below wr.heap.size wr W → Calls Try.prog 12 #[.agg #[.string n.name, .bool n.coll, .int .u8 n.access, .int .i64 n.max, .slice a1 n.affs.length k1, .slice a2 n.subs.length k2, .slice a3 n.items.length k3, .string n.parent], .agg #[.int .i64 x.kind, .string x.by_, .string x.who, .int .i64 x.depth, .int .i64 x.max, .bool x.yes, .int .u8 x.role, .int .u8 x.access, .string x.item, .string x.text]] W fun e w' => ∃ v', e = .returned (.tuple #[v', .int .i64 (doN pr n x).2]) ∧ NodeV w' v' (doN pr n x).1 ∧ Below W.heap.size W w') := fun W hW => do_any _ n x W (HVn.out.below hW) HSt.out.bd hsx
        generalize hres : doN pr n x = res at hst HDo
        have HED : Hid (wr.cell? ⟨g, off + k * 10, none⟩ = some (.int .i64 x.kind) ∧ wr.cell? ⟨g, off + k * 10 + 1, none⟩ = some (.string x.by_) ∧ wr.cell? ⟨g, off + k * 10 + 2, none⟩ = some (.string x.who) ∧ wr.cell? ⟨g, off + k * 10 + 3, none⟩ = some (.int .i64 x.depth) ∧ wr.cell? ⟨g, off + k * 10 + 4, none⟩ = some (.int .i64 x.max) ∧ wr.cell? ⟨g, off + k * 10 + 5, none⟩ = some (.bool x.yes) ∧ wr.cell? ⟨g, off + k * 10 + 6, none⟩ = some (.int .u8 x.role) ∧ wr.cell? ⟨g, off + k * 10 + 7, none⟩ = some (.int .u8 x.access) ∧ wr.cell? ⟨g, off + k * 10 + 8, none⟩ = some (.string x.item) ∧ wr.cell? ⟨g, off + k * 10 + 9, none⟩ = some (.string x.text)) := ⟨hcell 0 (by decide), hcell 1 (by decide), hcell 2 (by decide), hcell 3 (by decide), hcell 4 (by decide), hcell 5 (by decide), hcell 6 (by decide), hcell 7 (by decide), hcell 8 (by decide), hcell 9 (by decide)⟩
        have HGL := Lib.hid hgl
        have HST := Lib.hid hst
        clear hcell hgl hsx hres hst
        go_upto_region 5 with fail
        refine wp_region_held_drew (S := fun W => Below wr.heap.size wr W) mixed (Below.refl _ _).drew (fun hHeld => ?_)
        refine wpAnyH_take (i := 0) (oi := { dst := _, op := _, type := _, pos := _, after := _, guard := _ }) (v := ?_) rfl (by kernel_rfl) (by kernel_rfl) (by kernel_rfl) (fun _ _ _ h => h) (Or.inl ⟨by rfl, ?_⟩) hHeld ?_; rotate_left; (focus (intro wS hSw; (have c0 := (HRn.out.below hSw).at 0 _ rfl; have c1 := (HRn.out.below hSw).at 1 _ rfl; have c2 := (HRn.out.below hSw).at 2 _ rfl; have c3 := (HRn.out.below hSw).at 3 _ rfl; have c4 := (HRn.out.below hSw).at 4 _ rfl; have c5 := (HRn.out.below hSw).at 5 _ rfl; have c6 := (HRn.out.below hSw).at 6 _ rfl; have c7 := (HRn.out.below hSw).at 7 _ rfl); go_simp; (try with_reducible rfl); done)); (try simp only [Act.put, List.setIfInBounds_toArray, List.set_cons_zero, List.set_cons_succ])
        first
          | (refine wpAnyH_take (i := 1) (oi := { dst := _, op := _, type := _, pos := _, after := _, guard := _ }) (v := _) rfl (by kernel_rfl) (by kernel_rfl) (by kernel_rfl) (fun _ _ _ h => h) (Or.inr ⟨by rfl, rfl⟩) hHeld ?_; (try simp only [Act.put, List.setIfInBounds_toArray, List.set_cons_zero, List.set_cons_succ]))
          | (refine wpAnyH_take (i := 1) (oi := { dst := _, op := _, type := _, pos := _, after := _, guard := _ }) (v := ?_) rfl (by kernel_rfl) (by kernel_rfl) (by kernel_rfl) (fun _ _ _ h => h) (Or.inl ⟨by rfl, ?_⟩) hHeld ?_; rotate_left; (focus (intro wS hSw; (try dsimp only at hSw); go_simp; (try with_reducible rfl); done)); (try simp only [Act.put, List.setIfInBounds_toArray, List.set_cons_zero, List.set_cons_succ]))
        first
          | (refine wpAnyH_take (i := 2) (oi := { dst := _, op := _, type := _, pos := _, after := _, guard := _ }) (v := _) rfl (by kernel_rfl) (by kernel_rfl) (by kernel_rfl) (fun _ _ _ h => h) (Or.inr ⟨by rfl, rfl⟩) hHeld ?_; (try simp only [Act.put, List.setIfInBounds_toArray, List.set_cons_zero, List.set_cons_succ]))
          | (refine wpAnyH_take (i := 2) (oi := { dst := _, op := _, type := _, pos := _, after := _, guard := _ }) (v := ?_) rfl (by kernel_rfl) (by kernel_rfl) (by kernel_rfl) (fun _ _ _ h => h) (Or.inl ⟨by rfl, ?_⟩) hHeld ?_; rotate_left; (focus (intro wS hSw; (try dsimp only at hSw); go_simp; (try with_reducible rfl); done)); (try simp only [Act.put, List.setIfInBounds_toArray, List.set_cons_zero, List.set_cons_succ]))
        first
          | (refine wpAnyH_take (i := 3) (oi := { dst := _, op := _, type := _, pos := _, after := _, guard := _ }) (v := _) rfl (by kernel_rfl) (by kernel_rfl) (by kernel_rfl) (fun _ _ _ h => h) (Or.inr ⟨by rfl, rfl⟩) hHeld ?_; (try simp only [Act.put, List.setIfInBounds_toArray, List.set_cons_zero, List.set_cons_succ]))
          | (refine wpAnyH_take (i := 3) (oi := { dst := _, op := _, type := _, pos := _, after := _, guard := _ }) (v := ?_) rfl (by kernel_rfl) (by kernel_rfl) (by kernel_rfl) (fun _ _ _ h => h) (Or.inl ⟨by rfl, ?_⟩) hHeld ?_; rotate_left; (focus (intro wS hSw; (try dsimp only at hSw); go_simp; (try with_reducible rfl); done)); (try simp only [Act.put, List.setIfInBounds_toArray, List.set_cons_zero, List.set_cons_succ]))
        refine wpAnyH_take (i := 4) (oi := { dst := _, op := _, type := _, pos := _, after := _, guard := _ }) (v := ?_) rfl (by kernel_rfl) (by kernel_rfl) (by kernel_rfl) (fun _ _ _ h => h) (Or.inl ⟨by rfl, ?_⟩) hHeld ?_; rotate_left; (focus (intro wS hSw; (have e0 := (hSw.cell (p := ⟨g, off + k * 10, none⟩) HGL.out).trans HED.out.1; have e1 := (hSw.cell (p := ⟨g, off + k * 10 + 1, none⟩) HGL.out).trans HED.out.2.1; have e2 := (hSw.cell (p := ⟨g, off + k * 10 + 2, none⟩) HGL.out).trans HED.out.2.2.1; have e3 := (hSw.cell (p := ⟨g, off + k * 10 + 3, none⟩) HGL.out).trans HED.out.2.2.2.1; have e4 := (hSw.cell (p := ⟨g, off + k * 10 + 4, none⟩) HGL.out).trans HED.out.2.2.2.2.1; have e5 := (hSw.cell (p := ⟨g, off + k * 10 + 5, none⟩) HGL.out).trans HED.out.2.2.2.2.2.1; have e6 := (hSw.cell (p := ⟨g, off + k * 10 + 6, none⟩) HGL.out).trans HED.out.2.2.2.2.2.2.1; have e7 := (hSw.cell (p := ⟨g, off + k * 10 + 7, none⟩) HGL.out).trans HED.out.2.2.2.2.2.2.2.1; have e8 := (hSw.cell (p := ⟨g, off + k * 10 + 8, none⟩) HGL.out).trans HED.out.2.2.2.2.2.2.2.2.1; have e9 := (hSw.cell (p := ⟨g, off + k * 10 + 9, none⟩) HGL.out).trans HED.out.2.2.2.2.2.2.2.2.2); go_simp; (try with_reducible rfl); done)); (try simp only [Act.put, List.setIfInBounds_toArray, List.set_cons_zero, List.set_cons_succ])
        refine wpAnyH_ready (rs := [5, 9]) (by kernel_rfl) (by simp) ?_
        refine AllReadyH.cons (o := { dst := _, op := _, type := _, pos := _, after := _, guard := _ }) rfl (fun K hK => ?_) (AllReadyH.cons (o := { dst := _, op := _, type := _, pos := _, after := _, guard := _ }) rfl (fun K hK => ?_) AllReadyH.nil)
        · go_simp
          go_at_call 12
          (with_reducible refine (HDo.out _ hHeld).mono ?_)
          rintro e w5 ⟨v5, rfl, hv5, hB5⟩
          have HB5 := Lib.hid (hHeld.trans (hB5.mono hHeld.size))
          obtain ⟨A5, S5, I5, rfl, hA5, hS5, hI5⟩ := hv5
          obtain ⟨b1, l1, rfl⟩ := hA5.form
          obtain ⟨b2, l2, rfl⟩ := hS5.form
          obtain ⟨b3, l3, rfl⟩ := hI5.form
          go_wp2_with fail
          obtain ⟨w6, hw6, hB6, hr6, hs6⟩ := one w5 28 [.string ⟨#[]⟩, .bool false, .int .u8 0, .int .i64 0, .slice none 0 0, .slice none 0 0, .slice none 0 0, .string ⟨#[]⟩]
          have HW6 := Lib.hid hw6
          have HB6 := Lib.hid (HB5.out.trans (hB6.mono HB5.out.size))
          have HR6 := Lib.hid hr6
          have HV6 : Hid (NodeV w6 (.agg #[.string res.1.name, .bool res.1.coll, .int .u8 res.1.access, .int .i64 res.1.max, .slice b1 res.1.affs.length l1, .slice b2 res.1.subs.length l2, .slice b3 res.1.items.length l3, .string res.1.parent]) res.1) := NodeV.below ⟨_, _, _, rfl, hA5, hS5, hI5⟩ hB6
          have HLT : Hid (w1.heap.size ≠ w5.heap.size ∧ wr.heap.size ≤ w5.heap.size) := ⟨by have := HRn.out.lt; have := HB5.out.size; omega, HB5.out.size⟩
          clear hw6 hB6 hr6 hs6 hA5 hS5 hI5 hB5
          obtain ⟨w7, st7, hr7, hg7, _⟩ := run_store_row (P := Try.prog) HR6.out 28 [.string res.1.name, .bool res.1.coll, .int .u8 res.1.access, .int .i64 res.1.max, .slice b1 res.1.affs.length l1, .slice b2 res.1.subs.length l2, .slice b3 res.1.items.length l3, .string res.1.parent] (sizeNode w6) rfl rfl (node_one _ _ _ _ _ _ _ _ rfl rfl rfl)
          have ST7 := Lib.hid st7
          have HB7 := Lib.hid (below_gone HB6.out hg7 HB6.out.size HLT.out.2)
          have HRm := Lib.hid hr7
          have HVm := Lib.hid (HV6.out.goneN HR6.out hg7)
          clear st7 hr7 hg7
          refine hK.out _ _ ?_ (fun hHeld => ?_)
          focus (exact HB5.out)
          clear hK K
          (try simp only [Act.put, List.setIfInBounds_toArray, List.set_cons_zero, List.set_cons_succ])
          first
            | (refine wpAnyH_take (i := 6) (oi := { dst := _, op := _, type := _, pos := _, after := _, guard := _ }) (v := _) rfl (by kernel_rfl) (by kernel_rfl) (by kernel_rfl) (fun _ _ _ h => h) (Or.inr ⟨by rfl, rfl⟩) hHeld ?_; (try simp only [Act.put, List.setIfInBounds_toArray, List.set_cons_zero, List.set_cons_succ]))
            | (refine wpAnyH_take (i := 6) (oi := { dst := _, op := _, type := _, pos := _, after := _, guard := _ }) (v := ?_) rfl (by kernel_rfl) (by kernel_rfl) (by kernel_rfl) (fun _ _ _ h => h) (Or.inl ⟨by rfl, ?_⟩) hHeld ?_; rotate_left; (focus (intro wS hSw; (try dsimp only at hSw); go_simp; (try with_reducible rfl); done)); (try simp only [Act.put, List.setIfInBounds_toArray, List.set_cons_zero, List.set_cons_succ]))
          first
            | (refine wpAnyH_take (i := 7) (oi := { dst := _, op := _, type := _, pos := _, after := _, guard := _ }) (v := _) rfl (by kernel_rfl) (by kernel_rfl) (by kernel_rfl) (fun _ _ _ h => h) (Or.inr ⟨by rfl, rfl⟩) hHeld ?_; (try simp only [Act.put, List.setIfInBounds_toArray, List.set_cons_zero, List.set_cons_succ]))
            | (refine wpAnyH_take (i := 7) (oi := { dst := _, op := _, type := _, pos := _, after := _, guard := _ }) (v := ?_) rfl (by kernel_rfl) (by kernel_rfl) (by kernel_rfl) (fun _ _ _ h => h) (Or.inl ⟨by rfl, ?_⟩) hHeld ?_; rotate_left; (focus (intro wS hSw; (try dsimp only at hSw); go_simp; (try with_reducible rfl); done)); (try simp only [Act.put, List.setIfInBounds_toArray, List.set_cons_zero, List.set_cons_succ]))
          first
            | (refine wpAnyH_take (i := 8) (oi := { dst := _, op := _, type := _, pos := _, after := _, guard := _ }) (v := _) rfl (by kernel_rfl) (by kernel_rfl) (by kernel_rfl) (fun _ _ _ h => h) (Or.inr ⟨by rfl, rfl⟩) hHeld ?_; (try simp only [Act.put, List.setIfInBounds_toArray, List.set_cons_zero, List.set_cons_succ]))
            | (refine wpAnyH_take (i := 8) (oi := { dst := _, op := _, type := _, pos := _, after := _, guard := _ }) (v := ?_) rfl (by kernel_rfl) (by kernel_rfl) (by kernel_rfl) (fun _ _ _ h => h) (Or.inl ⟨by rfl, ?_⟩) hHeld ?_; rotate_left; (focus (intro wS hSw; (try dsimp only at hSw); go_simp; (try with_reducible rfl); done)); (try simp only [Act.put, List.setIfInBounds_toArray, List.set_cons_zero, List.set_cons_succ]))
          refine wpAnyH_ready (rs := [9]) (by kernel_rfl) (by simp) ?_
          refine AllReadyH.cons (o := { dst := _, op := _, type := _, pos := _, after := _, guard := _ }) rfl (fun K hK => ?_) AllReadyH.nil
          go_simp
          rw [HW6.out]
          refine hK.out _ _ ?_ (fun hHeld => ?_)
          focus (exact HB6.out)
          clear hK K
          (try simp only [Act.put, List.setIfInBounds_toArray, List.set_cons_zero, List.set_cons_succ])
          refine wpAnyH_ready (rs := [10]) (by kernel_rfl) (by simp) ?_
          refine AllReadyH.cons (o := { dst := _, op := _, type := _, pos := _, after := _, guard := _ }) rfl (fun K hK => ?_) AllReadyH.nil
          rw [if_pos (by rfl)]
          refine wp_store_run _ 28 _ _ rfl _ _ rfl rfl ST7.out ?_
          refine hK.out _ _ ?_ (fun hHeld => ?_)
          focus (exact HB7.out)
          clear hK K
          (try simp only [Act.put, List.setIfInBounds_toArray, List.set_cons_zero, List.set_cons_succ])
          first
            | (refine wpAnyH_take (i := 11) (oi := { dst := _, op := _, type := _, pos := _, after := _, guard := _ }) (v := _) rfl (by kernel_rfl) (by kernel_rfl) (by kernel_rfl) (fun _ _ _ h => h) (Or.inr ⟨by rfl, rfl⟩) hHeld ?_; (try simp only [Act.put, List.setIfInBounds_toArray, List.set_cons_zero, List.set_cons_succ]))
            | (refine wpAnyH_take (i := 11) (oi := { dst := _, op := _, type := _, pos := _, after := _, guard := _ }) (v := ?_) rfl (by kernel_rfl) (by kernel_rfl) (by kernel_rfl) (fun _ _ _ h => h) (Or.inl ⟨by rfl, ?_⟩) hHeld ?_; rotate_left; (focus (intro wS hSw; (try dsimp only at hSw); go_simp; (try with_reducible rfl); done)); (try simp only [Act.put, List.setIfInBounds_toArray, List.set_cons_zero, List.set_cons_succ]))
          refine wpAnyH_done (by kernel_rfl) ?_ _
          clear HW6 ST7 HR6 HB6 HV6 HB5
          generalize w5.heap.size = A9 at *
          rcases HST.out with ⟨hc, hn⟩ | ⟨hc, hst2⟩
          · have hcb : (res.2 != 0) = true := by rw [bne_iff_ne]; exact hc
            have f0 : w7.cell? ⟨A9, 0, none⟩ = some (.string ⟨#[]⟩) := by
              have := HRm.out.at 0 _ rfl
              rw [hn] at this
              exact this
            have f4 : w7.cell? ⟨A9, 4, none⟩ = some (.slice b1 0 l1) := by
              have := HRm.out.at 4 _ rfl
              rw [hn] at this
              exact this
            generalize res.2 = code at *
            clear hc HDo
            go_wp2_with fail
            go_roundw
            case rel => exact ⟨k + 1, n, a1, a2, a3, k1, k2, k3, by omega, by omega, by go_num, HRn.out.below HB7.out, HVn.out.below HB7.out, HSt.out, HB.out.trans (HB7.out.mono HB.out.size)⟩
            case measure => simp [intOf]; omega
          · clear HDo
            have hres2 : (0 : Int) = res.2 := hc.symm
            have HS2 := Lib.hid hst2
            have hcb : (res.2 != 0) = false := by rw [← hres2]; rfl
            have m0 := HRm.out.at 0 _ rfl
            have m1 := HRm.out.at 1 _ rfl
            have m2 := HRm.out.at 2 _ rfl
            have m3 := HRm.out.at 3 _ rfl
            have m4 := HRm.out.at 4 _ rfl
            have m5 := HRm.out.at 5 _ rfl
            have m6 := HRm.out.at 6 _ rfl
            have m7 := HRm.out.at 7 _ rfl
            obtain ⟨w8, st8, hr8, hg8, _⟩ := run_store_row (P := Try.prog) (HRn.out.below HB7.out) 28 [.string res.1.name, .bool res.1.coll, .int .u8 res.1.access, .int .i64 res.1.max, .slice b1 res.1.affs.length l1, .slice b2 res.1.subs.length l2, .slice b3 res.1.items.length l3, .string res.1.parent] (sizeNode w7) rfl rfl (node_one _ _ _ _ _ _ _ _ rfl rfl rfl)
            have HV8 := Lib.hid (HVm.out.goneN (HRn.out.below HB7.out) hg8)
            have HB8 := Lib.hid (below_gone (HB.out.trans (HB7.out.mono HB.out.size)) hg8 (Nat.le_trans HB.out.size HB7.out.size) HA7.out)
            have HR8 := Lib.hid hr8
            have ST8 := Lib.hid st8
            have HRi := right_any _ res.1 w8 HV8.out hst2.bd
            rw [(right_iff pr _).2 hst2.right] at HRi
            have HRi := Lib.hid HRi
            have q0 := HR8.out.at 0 _ rfl
            have q1 := HR8.out.at 1 _ rfl
            have q2 := HR8.out.at 2 _ rfl
            have q3 := HR8.out.at 3 _ rfl
            have q4 := HR8.out.at 4 _ rfl
            have q5 := HR8.out.at 5 _ rfl
            have q6 := HR8.out.at 6 _ rfl
            have q7 := HR8.out.at 7 _ rfl
            clear st8 hr8 hg8 hst2 hres2 hc
            generalize res.2 = code at *
            go_wp2_with (refine wpList_store_run _ rfl 28 _ _ rfl _ _ rfl rfl ST8.out ?_)
            (with_reducible refine HRi.out.mono ?_)
            rintro e w9 ⟨rfl, hB9⟩
            have HR9 := Lib.hid (HR8.out.below hB9)
            have HV9 := Lib.hid (HV8.out.below hB9)
            have HB9 := Lib.hid (HB8.out.trans (hB9.mono HB8.out.size))
            have r0 : w9.cell? ⟨w1.heap.size, 0, none⟩ = some (.string ⟨#[110]⟩) := by
              have := HR9.out.at 0 _ rfl
              rw [HS2.out.name] at this
              exact this
            have r1 : w9.cell? ⟨w1.heap.size, 1, none⟩ = some (.bool (!leaf)) := by
              have := HR9.out.at 1 _ rfl
              rw [HS2.out.coll] at this
              exact this
            have r7 : w9.cell? ⟨w1.heap.size, 7, none⟩ = some (.string ⟨#[]⟩) := by
              have := HR9.out.at 7 _ rfl
              rw [HS2.out.parent] at this
              exact this
            have hbl : ((!leaf) == leaf) = false := by cases leaf <;> rfl
            have hsl : res.1.subs.length ≤ 1000 := HS2.out.bd.subs
            clear hB9 HRi ST8 HR8 HV8 HB8 m0 m1 m2 m3 m4 m5 m6 m7 q0 q1 q2 q3 q4 q5 q6 q7
            go_upto_region 13 with fail
            go_loopw [11] (fun jv W => ∃ j : Nat, j ≤ res.1.subs.length ∧ jv = .int .i64 j ∧ Hid (Below w9.heap.size w9 W)) (fun jv _ => res.1.subs.length - (intOf jv).toNat)
            case atStart => exact ⟨0, Nat.zero_le _, rfl, Below.refl _ _⟩
            case round =>
              obtain ⟨j, hj, rfl, HBj⟩ := hrel
              have HRj := Lib.hid (HR9.out.below HBj.out)
              have c5 := HRj.out.at 5 _ rfl
              by_cases hjl : j < res.1.subs.length
              · have cj : decide ((j : Int) < (res.1.subs.length : Int)) = true := by rw [decide_eq_true_eq]; omega
                have hS9 : SlE PSub.enc 3 wr (.slice b2 res.1.subs.length l2) res.1.subs := by
                  obtain ⟨_, _, _, e, _, hS, _⟩ := HV9.out
                  cases e
                  exact hS.below HBj.out
                have hout := HS2.out.out _ (List.getElem_mem hjl)
                obtain ⟨g2, off2, hb2, hcell⟩ := hS9.at j hjl
                have hg2 : g2 < wr.heap.size := by
                  obtain ⟨_, _, e, _, hx⟩ := hS9
                  injection e with e1 e2 e3
                  rcases hx with hx | ⟨g', o', ha, hg, _⟩
                  · rw [hx] at hjl; cases hjl
                  · rw [ha, hb2] at e1; cases e1; exact hg
                have hs0 : wr.cell? ⟨g2, off2 + j * 3, none⟩ = some (.string res.1.subs[j].jid) := hcell 0 (by decide)
                have HRo : Hid (∀ W, Below wr.heap.size wr W → Calls Try.prog 14 #[.agg #[.string res.1.name, .bool res.1.coll, .int .u8 res.1.access, .int .i64 res.1.max, .slice b1 res.1.affs.length l1, .slice b2 res.1.subs.length l2, .slice b3 res.1.items.length l3, .string res.1.parent], .string res.1.subs[j].jid] W fun e w' => e = .returned (.int .u8 (roleN res.1 res.1.subs[j].jid)) ∧ Below W.heap.size W w') := fun W hW => role_any _ res.1 _ W (HV9.out.below (HBj.out.trans (hW.mono HBj.out.size))) (by have := HS2.out.bd.affs; omega)
                have hrl : (roleN res.1 res.1.subs[j].jid == 1) = false := beq_eq_false_iff_ne.2 hout
                generalize roleN res.1 res.1.subs[j].jid = rl at *
                generalize res.1.subs[j].jid = sj at *
                have HS0 := Lib.hid hs0
                have HG2 := Lib.hid hg2
                have b1' : (0 : Int) ≤ (j : Int) := by omega
                have b2' : (j : Int) < (res.1.subs.length : Int) := by omega
                subst hb2
                clear hS9 hout hcell hg2 hs0
                go_upto_region 15 with fail
                refine wp_region_held_drew (S := fun W => Below wr.heap.size wr W) mixed (Below.refl _ _).drew (fun hHeld => ?_)
                refine wpAnyH_take (i := 0) (oi := { dst := _, op := _, type := _, pos := _, after := _, guard := _ }) (v := ?_) rfl (by kernel_rfl) (by kernel_rfl) (by kernel_rfl) (fun _ _ _ h => h) (Or.inl ⟨by rfl, ?_⟩) hHeld ?_; rotate_left; (focus (intro wS hSw; (have c0 := (HRj.out.below hSw).at 0 _ rfl; have c1 := (HRj.out.below hSw).at 1 _ rfl; have c2 := (HRj.out.below hSw).at 2 _ rfl; have c3 := (HRj.out.below hSw).at 3 _ rfl; have c4 := (HRj.out.below hSw).at 4 _ rfl; have c5 := (HRj.out.below hSw).at 5 _ rfl; have c6 := (HRj.out.below hSw).at 6 _ rfl; have c7 := (HRj.out.below hSw).at 7 _ rfl); go_simp; (try with_reducible rfl); done)); (try simp only [Act.put, List.setIfInBounds_toArray, List.set_cons_zero, List.set_cons_succ])
                first
                  | (refine wpAnyH_take (i := 1) (oi := { dst := _, op := _, type := _, pos := _, after := _, guard := _ }) (v := _) rfl (by kernel_rfl) (by kernel_rfl) (by kernel_rfl) (fun _ _ _ h => h) (Or.inr ⟨by rfl, rfl⟩) hHeld ?_; (try simp only [Act.put, List.setIfInBounds_toArray, List.set_cons_zero, List.set_cons_succ]))
                  | (refine wpAnyH_take (i := 1) (oi := { dst := _, op := _, type := _, pos := _, after := _, guard := _ }) (v := ?_) rfl (by kernel_rfl) (by kernel_rfl) (by kernel_rfl) (fun _ _ _ h => h) (Or.inl ⟨by rfl, ?_⟩) hHeld ?_; rotate_left; (focus (intro wS hSw; (try dsimp only at hSw); go_simp; (try with_reducible rfl); done)); (try simp only [Act.put, List.setIfInBounds_toArray, List.set_cons_zero, List.set_cons_succ]))
                refine wpAnyH_take (i := 2) (oi := { dst := _, op := _, type := _, pos := _, after := _, guard := _ }) (v := ?_) rfl (by kernel_rfl) (by kernel_rfl) (by kernel_rfl) (fun _ _ _ h => h) (Or.inl ⟨by rfl, ?_⟩) hHeld ?_; rotate_left; (focus (intro wS hSw; (have c5 := (HRj.out.below hSw).at 5 _ rfl); go_simp; (try with_reducible rfl); done)); (try simp only [Act.put, List.setIfInBounds_toArray, List.set_cons_zero, List.set_cons_succ])
                first
                  | (refine wpAnyH_take (i := 3) (oi := { dst := _, op := _, type := _, pos := _, after := _, guard := _ }) (v := _) rfl (by kernel_rfl) (by kernel_rfl) (by kernel_rfl) (fun _ _ _ h => h) (Or.inr ⟨by rfl, rfl⟩) hHeld ?_; (try simp only [Act.put, List.setIfInBounds_toArray, List.set_cons_zero, List.set_cons_succ]))
                  | (refine wpAnyH_take (i := 3) (oi := { dst := _, op := _, type := _, pos := _, after := _, guard := _ }) (v := ?_) rfl (by kernel_rfl) (by kernel_rfl) (by kernel_rfl) (fun _ _ _ h => h) (Or.inl ⟨by rfl, ?_⟩) hHeld ?_; rotate_left; (focus (intro wS hSw; (try dsimp only at hSw); go_simp; (try with_reducible rfl); done)); (try simp only [Act.put, List.setIfInBounds_toArray, List.set_cons_zero, List.set_cons_succ]))
                first
                  | (refine wpAnyH_take (i := 4) (oi := { dst := _, op := _, type := _, pos := _, after := _, guard := _ }) (v := _) rfl (by kernel_rfl) (by kernel_rfl) (by kernel_rfl) (fun _ _ _ h => h) (Or.inr ⟨by rfl, rfl⟩) hHeld ?_; (try simp only [Act.put, List.setIfInBounds_toArray, List.set_cons_zero, List.set_cons_succ]))
                  | (refine wpAnyH_take (i := 4) (oi := { dst := _, op := _, type := _, pos := _, after := _, guard := _ }) (v := ?_) rfl (by kernel_rfl) (by kernel_rfl) (by kernel_rfl) (fun _ _ _ h => h) (Or.inl ⟨by rfl, ?_⟩) hHeld ?_; rotate_left; (focus (intro wS hSw; (try dsimp only at hSw); go_simp; (try with_reducible rfl); done)); (try simp only [Act.put, List.setIfInBounds_toArray, List.set_cons_zero, List.set_cons_succ]))
                first
                  | (refine wpAnyH_take (i := 5) (oi := { dst := _, op := _, type := _, pos := _, after := _, guard := _ }) (v := _) rfl (by kernel_rfl) (by kernel_rfl) (by kernel_rfl) (fun _ _ _ h => h) (Or.inr ⟨by rfl, rfl⟩) hHeld ?_; (try simp only [Act.put, List.setIfInBounds_toArray, List.set_cons_zero, List.set_cons_succ]))
                  | (refine wpAnyH_take (i := 5) (oi := { dst := _, op := _, type := _, pos := _, after := _, guard := _ }) (v := ?_) rfl (by kernel_rfl) (by kernel_rfl) (by kernel_rfl) (fun _ _ _ h => h) (Or.inl ⟨by rfl, ?_⟩) hHeld ?_; rotate_left; (focus (intro wS hSw; (try dsimp only at hSw); go_simp; (try with_reducible rfl); done)); (try simp only [Act.put, List.setIfInBounds_toArray, List.set_cons_zero, List.set_cons_succ]))
                refine wpAnyH_take (i := 6) (oi := { dst := _, op := _, type := _, pos := _, after := _, guard := _ }) (v := ?_) rfl (by kernel_rfl) (by kernel_rfl) (by kernel_rfl) (fun _ _ _ h => h) (Or.inl ⟨by rfl, ?_⟩) hHeld ?_; rotate_left; (focus (intro wS hSw; (have s0 := (hSw.cell (p := ⟨g2, off2 + j * 3, none⟩) HG2.out).trans HS0.out); go_simp; (try with_reducible rfl); done)); (try simp only [Act.put, List.setIfInBounds_toArray, List.set_cons_zero, List.set_cons_succ])
                refine wpAnyH_ready (rs := [7]) (by kernel_rfl) (by simp) ?_
                refine AllReadyH.cons (o := { dst := _, op := _, type := _, pos := _, after := _, guard := _ }) rfl (fun K hK => ?_) AllReadyH.nil
                go_simp
                go_at_call 14
                (with_reducible refine (HRo.out _ hHeld).mono ?_)
                rintro e wA ⟨rfl, hA⟩
                have HBA := Lib.hid (hHeld.trans (hA.mono hHeld.size))
                clear hA
                go_wp2_with fail
                refine hK.out _ _ ?_ (fun hHeld => ?_)
                focus (exact HBA.out)
                clear hK K
                (try simp only [Act.put, List.setIfInBounds_toArray, List.set_cons_zero, List.set_cons_succ])
                first
                  | (refine wpAnyH_take (i := 8) (oi := { dst := _, op := _, type := _, pos := _, after := _, guard := _ }) (v := _) rfl (by kernel_rfl) (by kernel_rfl) (by kernel_rfl) (fun _ _ _ h => h) (Or.inr ⟨by rfl, rfl⟩) hHeld ?_; (try simp only [Act.put, List.setIfInBounds_toArray, List.set_cons_zero, List.set_cons_succ]))
                  | (refine wpAnyH_take (i := 8) (oi := { dst := _, op := _, type := _, pos := _, after := _, guard := _ }) (v := ?_) rfl (by kernel_rfl) (by kernel_rfl) (by kernel_rfl) (fun _ _ _ h => h) (Or.inl ⟨by rfl, ?_⟩) hHeld ?_; rotate_left; (focus (intro wS hSw; (try dsimp only at hSw); go_simp; (try with_reducible rfl); done)); (try simp only [Act.put, List.setIfInBounds_toArray, List.set_cons_zero, List.set_cons_succ]))
                refine wpAnyH_done (by kernel_rfl) ?_ _
                go_wp2_with fail
                go_roundw
                case rel => exact ⟨j + 1, by omega, by go_num, HBj.out.trans (HBA.out.mono HBj.out.size)⟩
                case measure => simp [intOf]; omega
              · have cj : decide ((j : Int) < (res.1.subs.length : Int)) = false := by rw [decide_eq_false_iff_not]; omega
                go_wp2_with fail
                go_roundw
                case rel => exact ⟨k + 1, res.1, b1, b2, b3, l1, l2, l3, by omega, by omega, by go_num, HRj.out, HV9.out.below HBj.out, HS2.out, HB9.out.trans (HBj.out.mono HB9.out.size)⟩
                case measure => simp [intOf]; omega
        · obtain ⟨w4', hw4, hB4, hr4, hs4⟩ := one wr 28 [.string ⟨#[]⟩, .bool false, .int .u8 0, .int .i64 0, .slice none 0 0, .slice none 0 0, .slice none 0 0, .string ⟨#[]⟩]
          have HW4 := Lib.hid hw4
          have hd4 : Below w4'.heap.size w4' w4'.drew := (Below.refl _ _).drew
          have HB4 : Hid (Below wr.heap.size wr w4'.drew) := hB4.trans (hd4.mono hB4.size)
          have HR4 : Hid (RowI w4'.drew wr.heap.size 28 8 [.string ⟨#[]⟩, .bool false, .int .u8 0, .int .i64 0, .slice none 0 0, .slice none 0 0, .slice none 0 0, .string ⟨#[]⟩]) := hr4.below hd4
          clear hw4 hB4 hr4 hs4 hd4
          go_simp
          rw [HW4.out]
          clear HW4
          generalize w4'.drew = w4 at *
          refine hK.out _ _ ?_ (fun hHeld => ?_)
          focus (exact HB4.out)
          clear hK K
          (try simp only [Act.put, List.setIfInBounds_toArray, List.set_cons_zero, List.set_cons_succ])
          refine wpAnyH_ready (rs := [5]) (by kernel_rfl) (by simp) ?_
          refine AllReadyH.cons (o := { dst := _, op := _, type := _, pos := _, after := _, guard := _ }) rfl (fun K hK => ?_) AllReadyH.nil
          go_simp
          go_at_call 12
          (with_reducible refine (HDo.out _ hHeld).mono ?_)
          rintro e w5 ⟨v5, rfl, hv5, hB5⟩
          have HB5 := Lib.hid (hHeld.trans (hB5.mono hHeld.size))
          obtain ⟨A5, S5, I5, rfl, hA5, hS5, hI5⟩ := hv5
          obtain ⟨b1, l1, rfl⟩ := hA5.form
          obtain ⟨b2, l2, rfl⟩ := hS5.form
          obtain ⟨b3, l3, rfl⟩ := hI5.form
          go_wp2_with fail
          have HR6 := Lib.hid (HR4.out.below hB5)
          have HV6 : Hid (NodeV w5 (.agg #[.string res.1.name, .bool res.1.coll, .int .u8 res.1.access, .int .i64 res.1.max, .slice b1 res.1.affs.length l1, .slice b2 res.1.subs.length l2, .slice b3 res.1.items.length l3, .string res.1.parent]) res.1) := ⟨_, _, _, rfl, hA5, hS5, hI5⟩
          have HLT : Hid (w1.heap.size ≠ wr.heap.size ∧ wr.heap.size ≤ wr.heap.size) := ⟨by have := HRn.out.lt; omega, Nat.le_refl _⟩
          have HB6 := HB5
          clear hA5 hS5 hI5 hB5
          obtain ⟨w7, st7, hr7, hg7, _⟩ := run_store_row (P := Try.prog) HR6.out 28 [.string res.1.name, .bool res.1.coll, .int .u8 res.1.access, .int .i64 res.1.max, .slice b1 res.1.affs.length l1, .slice b2 res.1.subs.length l2, .slice b3 res.1.items.length l3, .string res.1.parent] (sizeNode w5) rfl rfl (node_one _ _ _ _ _ _ _ _ rfl rfl rfl)
          have ST7 := Lib.hid st7
          have HB7 := Lib.hid (below_gone HB6.out hg7 HB6.out.size HLT.out.2)
          have HRm := Lib.hid hr7
          have HVm := Lib.hid (HV6.out.goneN HR6.out hg7)
          clear st7 hr7 hg7
          refine hK.out _ _ ?_ (fun hHeld => ?_)
          focus (exact HB5.out)
          clear hK K
          (try simp only [Act.put, List.setIfInBounds_toArray, List.set_cons_zero, List.set_cons_succ])
          first
            | (refine wpAnyH_take (i := 6) (oi := { dst := _, op := _, type := _, pos := _, after := _, guard := _ }) (v := _) rfl (by kernel_rfl) (by kernel_rfl) (by kernel_rfl) (fun _ _ _ h => h) (Or.inr ⟨by rfl, rfl⟩) hHeld ?_; (try simp only [Act.put, List.setIfInBounds_toArray, List.set_cons_zero, List.set_cons_succ]))
            | (refine wpAnyH_take (i := 6) (oi := { dst := _, op := _, type := _, pos := _, after := _, guard := _ }) (v := ?_) rfl (by kernel_rfl) (by kernel_rfl) (by kernel_rfl) (fun _ _ _ h => h) (Or.inl ⟨by rfl, ?_⟩) hHeld ?_; rotate_left; (focus (intro wS hSw; (try dsimp only at hSw); go_simp; (try with_reducible rfl); done)); (try simp only [Act.put, List.setIfInBounds_toArray, List.set_cons_zero, List.set_cons_succ]))
          first
            | (refine wpAnyH_take (i := 7) (oi := { dst := _, op := _, type := _, pos := _, after := _, guard := _ }) (v := _) rfl (by kernel_rfl) (by kernel_rfl) (by kernel_rfl) (fun _ _ _ h => h) (Or.inr ⟨by rfl, rfl⟩) hHeld ?_; (try simp only [Act.put, List.setIfInBounds_toArray, List.set_cons_zero, List.set_cons_succ]))
            | (refine wpAnyH_take (i := 7) (oi := { dst := _, op := _, type := _, pos := _, after := _, guard := _ }) (v := ?_) rfl (by kernel_rfl) (by kernel_rfl) (by kernel_rfl) (fun _ _ _ h => h) (Or.inl ⟨by rfl, ?_⟩) hHeld ?_; rotate_left; (focus (intro wS hSw; (try dsimp only at hSw); go_simp; (try with_reducible rfl); done)); (try simp only [Act.put, List.setIfInBounds_toArray, List.set_cons_zero, List.set_cons_succ]))
          first
            | (refine wpAnyH_take (i := 8) (oi := { dst := _, op := _, type := _, pos := _, after := _, guard := _ }) (v := _) rfl (by kernel_rfl) (by kernel_rfl) (by kernel_rfl) (fun _ _ _ h => h) (Or.inr ⟨by rfl, rfl⟩) hHeld ?_; (try simp only [Act.put, List.setIfInBounds_toArray, List.set_cons_zero, List.set_cons_succ]))
            | (refine wpAnyH_take (i := 8) (oi := { dst := _, op := _, type := _, pos := _, after := _, guard := _ }) (v := ?_) rfl (by kernel_rfl) (by kernel_rfl) (by kernel_rfl) (fun _ _ _ h => h) (Or.inl ⟨by rfl, ?_⟩) hHeld ?_; rotate_left; (focus (intro wS hSw; (try dsimp only at hSw); go_simp; (try with_reducible rfl); done)); (try simp only [Act.put, List.setIfInBounds_toArray, List.set_cons_zero, List.set_cons_succ]))
          refine wpAnyH_ready (rs := [10]) (by kernel_rfl) (by simp) ?_
          refine AllReadyH.cons (o := { dst := _, op := _, type := _, pos := _, after := _, guard := _ }) rfl (fun K hK => ?_) AllReadyH.nil
          rw [if_pos (by rfl)]
          refine wp_store_run _ 28 _ _ rfl _ _ rfl rfl ST7.out ?_
          refine hK.out _ _ ?_ (fun hHeld => ?_)
          focus (exact HB7.out)
          clear hK K
          (try simp only [Act.put, List.setIfInBounds_toArray, List.set_cons_zero, List.set_cons_succ])
          first
            | (refine wpAnyH_take (i := 11) (oi := { dst := _, op := _, type := _, pos := _, after := _, guard := _ }) (v := _) rfl (by kernel_rfl) (by kernel_rfl) (by kernel_rfl) (fun _ _ _ h => h) (Or.inr ⟨by rfl, rfl⟩) hHeld ?_; (try simp only [Act.put, List.setIfInBounds_toArray, List.set_cons_zero, List.set_cons_succ]))
            | (refine wpAnyH_take (i := 11) (oi := { dst := _, op := _, type := _, pos := _, after := _, guard := _ }) (v := ?_) rfl (by kernel_rfl) (by kernel_rfl) (by kernel_rfl) (fun _ _ _ h => h) (Or.inl ⟨by rfl, ?_⟩) hHeld ?_; rotate_left; (focus (intro wS hSw; (try dsimp only at hSw); go_simp; (try with_reducible rfl); done)); (try simp only [Act.put, List.setIfInBounds_toArray, List.set_cons_zero, List.set_cons_succ]))
          refine wpAnyH_done (by kernel_rfl) ?_ _
          clear ST7 HR6 HB6 HV6 HB5 HB4 HR4
          obtain ⟨A9, hA9⟩ : ∃ A9, A9 = wr.heap.size := ⟨_, rfl⟩
          rw [← hA9] at HRm HLT ⊢
          clear hA9
          rcases HST.out with ⟨hc, hn⟩ | ⟨hc, hst2⟩
          · have hcb : (res.2 != 0) = true := by rw [bne_iff_ne]; exact hc
            have f0 : w7.cell? ⟨A9, 0, none⟩ = some (.string ⟨#[]⟩) := by
              have := HRm.out.at 0 _ rfl
              rw [hn] at this
              exact this
            have f4 : w7.cell? ⟨A9, 4, none⟩ = some (.slice b1 0 l1) := by
              have := HRm.out.at 4 _ rfl
              rw [hn] at this
              exact this
            generalize res.2 = code at *
            clear hc HDo
            go_wp2_with fail
            go_roundw
            case rel => exact ⟨k + 1, n, a1, a2, a3, k1, k2, k3, by omega, by omega, by go_num, HRn.out.below HB7.out, HVn.out.below HB7.out, HSt.out, HB.out.trans (HB7.out.mono HB.out.size)⟩
            case measure => simp [intOf]; omega
          · clear HDo
            have hres2 : (0 : Int) = res.2 := hc.symm
            have HS2 := Lib.hid hst2
            have hcb : (res.2 != 0) = false := by rw [← hres2]; rfl
            have m0 := HRm.out.at 0 _ rfl
            have m1 := HRm.out.at 1 _ rfl
            have m2 := HRm.out.at 2 _ rfl
            have m3 := HRm.out.at 3 _ rfl
            have m4 := HRm.out.at 4 _ rfl
            have m5 := HRm.out.at 5 _ rfl
            have m6 := HRm.out.at 6 _ rfl
            have m7 := HRm.out.at 7 _ rfl
            obtain ⟨w8, st8, hr8, hg8, _⟩ := run_store_row (P := Try.prog) (HRn.out.below HB7.out) 28 [.string res.1.name, .bool res.1.coll, .int .u8 res.1.access, .int .i64 res.1.max, .slice b1 res.1.affs.length l1, .slice b2 res.1.subs.length l2, .slice b3 res.1.items.length l3, .string res.1.parent] (sizeNode w7) rfl rfl (node_one _ _ _ _ _ _ _ _ rfl rfl rfl)
            have HV8 := Lib.hid (HVm.out.goneN (HRn.out.below HB7.out) hg8)
            have HB8 := Lib.hid (below_gone (HB.out.trans (HB7.out.mono HB.out.size)) hg8 (Nat.le_trans HB.out.size HB7.out.size) HA7.out)
            have HR8 := Lib.hid hr8
            have ST8 := Lib.hid st8
            have HRi := right_any _ res.1 w8 HV8.out hst2.bd
            rw [(right_iff pr _).2 hst2.right] at HRi
            have HRi := Lib.hid HRi
            have q0 := HR8.out.at 0 _ rfl
            have q1 := HR8.out.at 1 _ rfl
            have q2 := HR8.out.at 2 _ rfl
            have q3 := HR8.out.at 3 _ rfl
            have q4 := HR8.out.at 4 _ rfl
            have q5 := HR8.out.at 5 _ rfl
            have q6 := HR8.out.at 6 _ rfl
            have q7 := HR8.out.at 7 _ rfl
            clear st8 hr8 hg8 hst2 hres2 hc
            generalize res.2 = code at *
            go_wp2_with (refine wpList_store_run _ rfl 28 _ _ rfl _ _ rfl rfl ST8.out ?_)
            (with_reducible refine HRi.out.mono ?_)
            rintro e w9 ⟨rfl, hB9⟩
            have HR9 := Lib.hid (HR8.out.below hB9)
            have HV9 := Lib.hid (HV8.out.below hB9)
            have HB9 := Lib.hid (HB8.out.trans (hB9.mono HB8.out.size))
            have r0 : w9.cell? ⟨w1.heap.size, 0, none⟩ = some (.string ⟨#[110]⟩) := by
              have := HR9.out.at 0 _ rfl
              rw [HS2.out.name] at this
              exact this
            have r1 : w9.cell? ⟨w1.heap.size, 1, none⟩ = some (.bool (!leaf)) := by
              have := HR9.out.at 1 _ rfl
              rw [HS2.out.coll] at this
              exact this
            have r7 : w9.cell? ⟨w1.heap.size, 7, none⟩ = some (.string ⟨#[]⟩) := by
              have := HR9.out.at 7 _ rfl
              rw [HS2.out.parent] at this
              exact this
            have hbl : ((!leaf) == leaf) = false := by cases leaf <;> rfl
            have hsl : res.1.subs.length ≤ 1000 := HS2.out.bd.subs
            clear hB9 HRi ST8 HR8 HV8 HB8 m0 m1 m2 m3 m4 m5 m6 m7 q0 q1 q2 q3 q4 q5 q6 q7
            go_upto_region 13 with fail
            go_loopw [11] (fun jv W => ∃ j : Nat, j ≤ res.1.subs.length ∧ jv = .int .i64 j ∧ Hid (Below w9.heap.size w9 W)) (fun jv _ => res.1.subs.length - (intOf jv).toNat)
            case atStart => exact ⟨0, Nat.zero_le _, rfl, Below.refl _ _⟩
            case round =>
              obtain ⟨j, hj, rfl, HBj⟩ := hrel
              have HRj := Lib.hid (HR9.out.below HBj.out)
              have c5 := HRj.out.at 5 _ rfl
              by_cases hjl : j < res.1.subs.length
              · have cj : decide ((j : Int) < (res.1.subs.length : Int)) = true := by rw [decide_eq_true_eq]; omega
                have hS9 : SlE PSub.enc 3 wr (.slice b2 res.1.subs.length l2) res.1.subs := by
                  obtain ⟨_, _, _, e, _, hS, _⟩ := HV9.out
                  cases e
                  exact hS.below HBj.out
                have hout := HS2.out.out _ (List.getElem_mem hjl)
                obtain ⟨g2, off2, hb2, hcell⟩ := hS9.at j hjl
                have hg2 : g2 < wr.heap.size := by
                  obtain ⟨_, _, e, _, hx⟩ := hS9
                  injection e with e1 e2 e3
                  rcases hx with hx | ⟨g', o', ha, hg, _⟩
                  · rw [hx] at hjl; cases hjl
                  · rw [ha, hb2] at e1; cases e1; exact hg
                have hs0 : wr.cell? ⟨g2, off2 + j * 3, none⟩ = some (.string res.1.subs[j].jid) := hcell 0 (by decide)
                have HRo : Hid (∀ W, Below wr.heap.size wr W → Calls Try.prog 14 #[.agg #[.string res.1.name, .bool res.1.coll, .int .u8 res.1.access, .int .i64 res.1.max, .slice b1 res.1.affs.length l1, .slice b2 res.1.subs.length l2, .slice b3 res.1.items.length l3, .string res.1.parent], .string res.1.subs[j].jid] W fun e w' => e = .returned (.int .u8 (roleN res.1 res.1.subs[j].jid)) ∧ Below W.heap.size W w') := fun W hW => role_any _ res.1 _ W (HV9.out.below (HBj.out.trans (hW.mono HBj.out.size))) (by have := HS2.out.bd.affs; omega)
                have hrl : (roleN res.1 res.1.subs[j].jid == 1) = false := beq_eq_false_iff_ne.2 hout
                generalize roleN res.1 res.1.subs[j].jid = rl at *
                generalize res.1.subs[j].jid = sj at *
                have HS0 := Lib.hid hs0
                have HG2 := Lib.hid hg2
                have b1' : (0 : Int) ≤ (j : Int) := by omega
                have b2' : (j : Int) < (res.1.subs.length : Int) := by omega
                subst hb2
                clear hS9 hout hcell hg2 hs0
                go_upto_region 15 with fail
                refine wp_region_held_drew (S := fun W => Below wr.heap.size wr W) mixed (Below.refl _ _).drew (fun hHeld => ?_)
                refine wpAnyH_take (i := 0) (oi := { dst := _, op := _, type := _, pos := _, after := _, guard := _ }) (v := ?_) rfl (by kernel_rfl) (by kernel_rfl) (by kernel_rfl) (fun _ _ _ h => h) (Or.inl ⟨by rfl, ?_⟩) hHeld ?_; rotate_left; (focus (intro wS hSw; (have c0 := (HRj.out.below hSw).at 0 _ rfl; have c1 := (HRj.out.below hSw).at 1 _ rfl; have c2 := (HRj.out.below hSw).at 2 _ rfl; have c3 := (HRj.out.below hSw).at 3 _ rfl; have c4 := (HRj.out.below hSw).at 4 _ rfl; have c5 := (HRj.out.below hSw).at 5 _ rfl; have c6 := (HRj.out.below hSw).at 6 _ rfl; have c7 := (HRj.out.below hSw).at 7 _ rfl); go_simp; (try with_reducible rfl); done)); (try simp only [Act.put, List.setIfInBounds_toArray, List.set_cons_zero, List.set_cons_succ])
                first
                  | (refine wpAnyH_take (i := 1) (oi := { dst := _, op := _, type := _, pos := _, after := _, guard := _ }) (v := _) rfl (by kernel_rfl) (by kernel_rfl) (by kernel_rfl) (fun _ _ _ h => h) (Or.inr ⟨by rfl, rfl⟩) hHeld ?_; (try simp only [Act.put, List.setIfInBounds_toArray, List.set_cons_zero, List.set_cons_succ]))
                  | (refine wpAnyH_take (i := 1) (oi := { dst := _, op := _, type := _, pos := _, after := _, guard := _ }) (v := ?_) rfl (by kernel_rfl) (by kernel_rfl) (by kernel_rfl) (fun _ _ _ h => h) (Or.inl ⟨by rfl, ?_⟩) hHeld ?_; rotate_left; (focus (intro wS hSw; (try dsimp only at hSw); go_simp; (try with_reducible rfl); done)); (try simp only [Act.put, List.setIfInBounds_toArray, List.set_cons_zero, List.set_cons_succ]))
                refine wpAnyH_take (i := 2) (oi := { dst := _, op := _, type := _, pos := _, after := _, guard := _ }) (v := ?_) rfl (by kernel_rfl) (by kernel_rfl) (by kernel_rfl) (fun _ _ _ h => h) (Or.inl ⟨by rfl, ?_⟩) hHeld ?_; rotate_left; (focus (intro wS hSw; (have c5 := (HRj.out.below hSw).at 5 _ rfl); go_simp; (try with_reducible rfl); done)); (try simp only [Act.put, List.setIfInBounds_toArray, List.set_cons_zero, List.set_cons_succ])
                first
                  | (refine wpAnyH_take (i := 3) (oi := { dst := _, op := _, type := _, pos := _, after := _, guard := _ }) (v := _) rfl (by kernel_rfl) (by kernel_rfl) (by kernel_rfl) (fun _ _ _ h => h) (Or.inr ⟨by rfl, rfl⟩) hHeld ?_; (try simp only [Act.put, List.setIfInBounds_toArray, List.set_cons_zero, List.set_cons_succ]))
                  | (refine wpAnyH_take (i := 3) (oi := { dst := _, op := _, type := _, pos := _, after := _, guard := _ }) (v := ?_) rfl (by kernel_rfl) (by kernel_rfl) (by kernel_rfl) (fun _ _ _ h => h) (Or.inl ⟨by rfl, ?_⟩) hHeld ?_; rotate_left; (focus (intro wS hSw; (try dsimp only at hSw); go_simp; (try with_reducible rfl); done)); (try simp only [Act.put, List.setIfInBounds_toArray, List.set_cons_zero, List.set_cons_succ]))
                first
                  | (refine wpAnyH_take (i := 4) (oi := { dst := _, op := _, type := _, pos := _, after := _, guard := _ }) (v := _) rfl (by kernel_rfl) (by kernel_rfl) (by kernel_rfl) (fun _ _ _ h => h) (Or.inr ⟨by rfl, rfl⟩) hHeld ?_; (try simp only [Act.put, List.setIfInBounds_toArray, List.set_cons_zero, List.set_cons_succ]))
                  | (refine wpAnyH_take (i := 4) (oi := { dst := _, op := _, type := _, pos := _, after := _, guard := _ }) (v := ?_) rfl (by kernel_rfl) (by kernel_rfl) (by kernel_rfl) (fun _ _ _ h => h) (Or.inl ⟨by rfl, ?_⟩) hHeld ?_; rotate_left; (focus (intro wS hSw; (try dsimp only at hSw); go_simp; (try with_reducible rfl); done)); (try simp only [Act.put, List.setIfInBounds_toArray, List.set_cons_zero, List.set_cons_succ]))
                first
                  | (refine wpAnyH_take (i := 5) (oi := { dst := _, op := _, type := _, pos := _, after := _, guard := _ }) (v := _) rfl (by kernel_rfl) (by kernel_rfl) (by kernel_rfl) (fun _ _ _ h => h) (Or.inr ⟨by rfl, rfl⟩) hHeld ?_; (try simp only [Act.put, List.setIfInBounds_toArray, List.set_cons_zero, List.set_cons_succ]))
                  | (refine wpAnyH_take (i := 5) (oi := { dst := _, op := _, type := _, pos := _, after := _, guard := _ }) (v := ?_) rfl (by kernel_rfl) (by kernel_rfl) (by kernel_rfl) (fun _ _ _ h => h) (Or.inl ⟨by rfl, ?_⟩) hHeld ?_; rotate_left; (focus (intro wS hSw; (try dsimp only at hSw); go_simp; (try with_reducible rfl); done)); (try simp only [Act.put, List.setIfInBounds_toArray, List.set_cons_zero, List.set_cons_succ]))
                refine wpAnyH_take (i := 6) (oi := { dst := _, op := _, type := _, pos := _, after := _, guard := _ }) (v := ?_) rfl (by kernel_rfl) (by kernel_rfl) (by kernel_rfl) (fun _ _ _ h => h) (Or.inl ⟨by rfl, ?_⟩) hHeld ?_; rotate_left; (focus (intro wS hSw; (have s0 := (hSw.cell (p := ⟨g2, off2 + j * 3, none⟩) HG2.out).trans HS0.out); go_simp; (try with_reducible rfl); done)); (try simp only [Act.put, List.setIfInBounds_toArray, List.set_cons_zero, List.set_cons_succ])
                refine wpAnyH_ready (rs := [7]) (by kernel_rfl) (by simp) ?_
                refine AllReadyH.cons (o := { dst := _, op := _, type := _, pos := _, after := _, guard := _ }) rfl (fun K hK => ?_) AllReadyH.nil
                go_simp
                go_at_call 14
                (with_reducible refine (HRo.out _ hHeld).mono ?_)
                rintro e wA ⟨rfl, hA⟩
                have HBA := Lib.hid (hHeld.trans (hA.mono hHeld.size))
                clear hA
                go_wp2_with fail
                refine hK.out _ _ ?_ (fun hHeld => ?_)
                focus (exact HBA.out)
                clear hK K
                (try simp only [Act.put, List.setIfInBounds_toArray, List.set_cons_zero, List.set_cons_succ])
                first
                  | (refine wpAnyH_take (i := 8) (oi := { dst := _, op := _, type := _, pos := _, after := _, guard := _ }) (v := _) rfl (by kernel_rfl) (by kernel_rfl) (by kernel_rfl) (fun _ _ _ h => h) (Or.inr ⟨by rfl, rfl⟩) hHeld ?_; (try simp only [Act.put, List.setIfInBounds_toArray, List.set_cons_zero, List.set_cons_succ]))
                  | (refine wpAnyH_take (i := 8) (oi := { dst := _, op := _, type := _, pos := _, after := _, guard := _ }) (v := ?_) rfl (by kernel_rfl) (by kernel_rfl) (by kernel_rfl) (fun _ _ _ h => h) (Or.inl ⟨by rfl, ?_⟩) hHeld ?_; rotate_left; (focus (intro wS hSw; (try dsimp only at hSw); go_simp; (try with_reducible rfl); done)); (try simp only [Act.put, List.setIfInBounds_toArray, List.set_cons_zero, List.set_cons_succ]))
                refine wpAnyH_done (by kernel_rfl) ?_ _
                go_wp2_with fail
                go_roundw
                case rel => exact ⟨j + 1, by omega, by go_num, HBj.out.trans (HBA.out.mono HBj.out.size)⟩
                case measure => simp [intOf]; omega
              · have cj : decide ((j : Int) < (res.1.subs.length : Int)) = false := by rw [decide_eq_false_iff_not]; omega
                go_wp2_with fail
                go_roundw
                case rel => exact ⟨k + 1, res.1, b1, b2, b3, l1, l2, l3, by omega, by omega, by go_num, HRj.out, HV9.out.below HBj.out, HS2.out, HB9.out.trans (HBj.out.mono HB9.out.size)⟩
                case measure => simp [intOf]; omega
      · have c40 : decide ((k : Int) < 40) = false := by rw [decide_eq_false_iff_not]; omega
        go_wp2_with fail
        (with_reducible refine (HLV.out wr).mono ?_)
        rintro e w9 ⟨rfl, hB9⟩
        have HB9 := Lib.hid (HB.out.trans (hB9.mono HB.out.size))
        clear hB9
        go_wp2_with fail
        go_returns
        exact ⟨rfl, HB9.out⟩
    · have ck : decide ((k : Int) < (l.length : Int)) = false := by rw [decide_eq_false_iff_not]; omega
      go_wp2_with fail
      (with_reducible refine (HLV.out wr).mono ?_)
      rintro e w9 ⟨rfl, hB9⟩
      have HB9 := Lib.hid (HB.out.trans (hB9.mono HB.out.size))
      clear hB9
      go_wp2_with fail
      go_returns
      exact ⟨rfl, HB9.out⟩
end Go.Proofs.Ytpjaopcgoaannaa
