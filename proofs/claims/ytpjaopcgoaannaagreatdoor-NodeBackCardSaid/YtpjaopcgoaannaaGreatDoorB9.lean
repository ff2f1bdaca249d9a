/- node.Decode: with its deferred recover. -/
import Derived.Test.YtpjaopcgoaannaaGreatDoorB8
import Derived.Recover
import Derived.Defers
import Derived.Laws.Pointers
namespace Go.Proofs.YtpjaopcgoaannaaGreatDoor
open Go.RowKit Go.Lib
open Hb

theorem NodeV.goneE {w w' : World} {v : Value} {n : PNode} (h : NodeV w v n) {B : Nat} {k : Int} (hr : RowI w B 29 1 [.int .i64 k]) (hg : w.grownBy w' (some B)) : NodeV w' v n := by
  have hc := hr.cellAt rfl
  obtain ⟨Av, Sv, Iv, e, ha, hs, hi⟩ := h
  refine ⟨Av, Sv, Iv, e, ha.goneN (by decide) hg ?_, hs.goneN (by decide) hg ?_, hi.goneN (by decide) hg ?_⟩
  all_goals
    intro x off hq
    have q0 := hq 0 (by decide)
    rw [hc] at q0
    rcases off with _ | off <;> simp [PAff.enc, PSub.enc, PItem.enc] at q0

set_option maxRecDepth 100000 in
set_option maxHeartbeats 4000000 in
theorem catch_panics (A B : Nat) (xs : List Value) (y : Value) (older : List PanicEntry) (w : World) (hA : RowI w A 27 8 xs) (hxs : xs.length = 8) (hB : RowI w B 29 1 [y]) (hAB : A ≠ B) :
    CallsD Tryz.prog 14 #[.pointer (some ⟨A, 0, none⟩), .pointer (some ⟨B, 0, none⟩)] (.panicking ({ v := .iface 56 (.agg #[]), recovered := false } :: older)) w fun e u' w' =>
      e = .returned (.tuple #[]) ∧ u' = .panicking ({ v := .iface 56 (.agg #[]), recovered := true } :: older) ∧
      RowI w' A 27 8 [.string ⟨#[]⟩, .bool false, .int .u8 0, .int .i64 0, .slice none 0 0, .slice none 0 0, .slice none 0 0, .string ⟨#[]⟩] ∧ RowI w' B 29 1 [.int .i64 3] ∧ ∀ base, base ≤ A → base ≤ B → base ≤ w.heap.size → Below base w w' := by
  refine callsD_of_wpS Tryz.func14 rfl fun c₀ cs hu => ?_
  apply wpS_seq
  apply wpS_region
  simp [wpOpsS, go_sem, recoverD, hu, Tryz.ntmps14, Exit.thenS]
  refine wpS_of_wp ?_
  have he : (#[.pointer (some ⟨A, 0, none⟩), .pointer (some ⟨B, 0, none⟩)] ++ (Array.replicate 10 undef).setIfInBounds 3 (.iface 56 (.agg #[])) : Array Value) = #[.pointer (some ⟨A, 0, none⟩), .pointer (some ⟨B, 0, none⟩), undef, undef, undef, .iface 56 (.agg #[]), undef, undef, undef, undef, undef, undef] := rfl
  rw [he]
  have hta : ∀ W, (Instr.typeAssert (.iface 56 (.agg #[])) 20 56 true).run Tryz.prog W = .ok (.tuple #[.agg #[], .bool true]) W := fun W => by kernel_rfl
  obtain ⟨w1, hw1, hb1, _, hs1⟩ := one w 56 []
  obtain ⟨w2, st2, hr2, hg2, hz2⟩ := run_store_row (P := Tryz.prog) (hA.below hb1) 27 [.string ⟨#[]⟩, .bool false, .int .u8 0, .int .i64 0, .slice none 0 0, .slice none 0 0, .slice none 0 0, .string ⟨#[]⟩] (sizeNode w1) (by rw [hxs]; rfl) hxs (node_one _ _ _ _ _ _ _ _ rfl rfl rfl)
  have hB2 := (hB.below hb1).gone hg2 (Ne.symm hAB)
  obtain ⟨w3, st3, hr3, hg3, hz3⟩ := run_store_one (P := Tryz.prog) hB2 29 0 (.int .i64 3) (Tryz.sizeOf29 _) (by simp) rfl rfl
  have HST2 := Lib.hid st2
  have HST3 := Lib.hid st3
  have HW1 := Lib.hid hw1
  have HRA := Lib.hid (hr2.gone hg3 hAB)
  have HRB := Lib.hid hr3
  have HBB : Hid (∀ base, base ≤ A → base ≤ B → base ≤ w.heap.size → Below base w w3) := fun base h1 h2 h3 => below_gone (below_gone (hb1.mono h3) hg2 (Nat.le_trans h3 hb1.size) h1) hg3 (by rw [hz2]; exact Nat.le_trans h3 hb1.size) h2
  clear hw1 hb1 hs1 st2 hr2 hg2 hz2 hB2 st3 hr3 hg3 hz3 hA hB
  go_upto_region 7 with fail
  rw [HW1.out]
  go_wp2_with (first
    | (refine wpList_store_run _ rfl 27 _ _ rfl _ _ rfl rfl HST2.out ?_)
    | (refine wpList_store_run _ rfl 29 _ _ rfl _ _ rfl rfl HST3.out ?_))
  exact ⟨rfl, _, rfl, _, results_none rfl _ _ _, rfl, rfl, HRA.out, HRB.out, HBB.out⟩

set_option maxRecDepth 100000 in
set_option maxHeartbeats 4000000 in
theorem catch_idle (A B : Nat) (w : World) :
    CallsD Tryz.prog 14 #[.pointer (some ⟨A, 0, none⟩), .pointer (some ⟨B, 0, none⟩)] .returning w fun e u' w' => e = .returned (.tuple #[]) ∧ u' = .returning ∧ w' = w := by
  refine callsD_of_wpS Tryz.func14 rfl fun c₀ cs hu => ?_
  apply wpS_seq
  apply wpS_region
  simp [wpOpsS, go_sem, recoverD, hu, Tryz.ntmps14, Exit.thenS]
  refine wpS_of_wp ?_
  have he : (#[.pointer (some ⟨A, 0, none⟩), .pointer (some ⟨B, 0, none⟩)] ++ (Array.replicate 10 undef).setIfInBounds 3 .nilIface : Array Value) = #[.pointer (some ⟨A, 0, none⟩), .pointer (some ⟨B, 0, none⟩), undef, undef, undef, .nilIface, undef, undef, undef, undef, undef, undef] := rfl
  rw [he]
  go_wp2_with fail
  cases c₀
  simp only at hu
  subst hu
  exact ⟨rfl, _, rfl, _, results_none rfl _ _ _, rfl, rfl, rfl⟩

set_option maxRecDepth 100000 in
set_option maxHeartbeats 8000000 in
theorem decode_any (s : ByteArray) (w : World) (hs : s.size ≤ 9223372036854775806) :
    Calls Tryz.prog 6 #[.string s] w fun e w' => ∃ v, e = .returned (.tuple #[v, .int .i64 (if (decR pr (bl s)).isSome then 0 else 3)]) ∧ NodeV w' v ((decR pr (bl s)).getD noNode) ∧ Bd ((decR pr (bl s)).getD noNode) ∧ 0 ≤ ((decR pr (bl s)).getD noNode).access ∧ Below w.heap.size w w' := by
  obtain ⟨W0, hW0, hB0, hA0, hE0, hs0⟩ := two w 27 29 [.string ⟨#[]⟩, .bool false, .int .u8 0, .int .i64 0, .slice none 0 0, .slice none 0 0, .slice none 0 0, .string ⟨#[]⟩] [.int .i64 0]
  obtain ⟨W1, hW1, hB1, hR1, hs1⟩ := one W0 59 [.string s]
  have HW : Hid (((w.alloc (.cells #[.string ⟨#[]⟩, .bool false, .int .u8 0, .int .i64 0, .slice none 0 0, .slice none 0 0, .slice none 0 0, .string ⟨#[]⟩] 27)).alloc (.cells #[.int .i64 0] 29)).alloc (.cells #[.string s] 59) = W1) := by rw [← hW1, ← hW0]; rfl
  rw [show W0.heap.size = w.heap.size + 1 + 1 from hs0] at hR1
  have hrd := read_any (w.heap.size + 1 + 1) s W1 hR1 hs
  have HA := Lib.hid (hA0.below hB1)
  have HE := Lib.hid (hE0.below hB1)
  have HB := Lib.hid (hB0.trans (hB1.mono hB0.size))
  clear hW0 hB0 hA0 hE0 hW1 hB1 hR1 hs
  have hsz : w.heap.size + 1 + 1 < W1.heap.size := by omega
  have HSZ := Lib.hid hsz
  clear hsz hs0 hs1
  cases hd : decR pr (bl s) with
  | none =>
    rw [hd] at hrd
    have HRd := Lib.hid hrd
    clear hrd hd
    go_enter_defers Tryz.func6, Tryz.ntmps6
    go_upto_region 3 with fail
    rw [HW.out]
    clear HW
    go_wp2_with fail
    (with_reducible refine HRd.out.mono ?_)
    rintro e w1 ⟨rfl, hg⟩
    have HA1 := Lib.hid (HA.out.gone hg (by omega))
    have HE1 := Lib.hid (HE.out.gone hg (by omega))
    have HB1 := Lib.hid (below_gone HB.out hg HB.out.size (by omega))
    clear hg
    go_wp2_with fail
    refine leaves_cons (f := 14) (args := #[.pointer (some ⟨w.heap.size, 0, none⟩), .pointer (some ⟨w.heap.size + 1, 0, none⟩)]) (by simp) (by simp [go_sem]) ?_
    refine (catch_panics w.heap.size (w.heap.size + 1) _ _ [] w1 HA1.out rfl HE1.out (by omega)).mono ?_
    rintro e u' w2 ⟨rfl, rfl, hA2, hE2, hB2⟩
    have HB2 := Lib.hid (HB1.out.trans (hB2 _ (Nat.le_refl _) (Nat.le_succ _) HB1.out.size))
    have e0 := hE2.at 0 _ rfl
    have c0 := hA2.at 0 _ rfl
    have c1 := hA2.at 1 _ rfl
    have c2 := hA2.at 2 _ rfl
    have c3 := hA2.at 3 _ rfl
    have c4 := hA2.at 4 _ rfl
    have c5 := hA2.at 5 _ rfl
    have c6 := hA2.at 6 _ rfl
    have c7 := hA2.at 7 _ rfl
    refine ⟨.tuple #[.agg #[.string ⟨#[]⟩, .bool false, .int .u8 0, .int .i64 0, .slice none 0 0, .slice none 0 0, .slice none 0 0, .string ⟨#[]⟩], .int .i64 3], ?_, _, rfl, ⟨_, _, _, rfl, SlE.nil _, SlE.nil _, SlE.nil _⟩, ?_, by decide, HB2.out⟩
    · simp [results, Tryz.results6, go_sem, c0, c1, c2, c3, c4, c5, c6, c7, e0]
    · exact ⟨by decide, by decide, fun _ h => (by cases h), fun _ h => (by cases h), fun _ h => (by cases h), by decide, by decide, by decide⟩
  | some n =>
    rw [hd] at hrd
    have HRd := Lib.hid hrd
    clear hrd hd
    go_enter_defers Tryz.func6, Tryz.ntmps6
    go_upto_region 3 with fail
    rw [HW.out]
    clear HW
    go_wp2_with fail
    (with_reducible refine HRd.out.mono ?_)
    rintro e w1 ⟨v, rfl, hv, hbd, hac, hg⟩
    obtain ⟨A1, S1, I1, rfl, hA1, hS1, hI1⟩ := hv
    obtain ⟨a1, k1, rfl⟩ := hA1.form
    obtain ⟨a2, k2, rfl⟩ := hS1.form
    obtain ⟨a3, k3, rfl⟩ := hI1.form
    have hv : NodeV w1 (.agg #[.string n.name, .bool n.coll, .int .u8 n.access, .int .i64 n.max, .slice a1 n.affs.length k1, .slice a2 n.subs.length k2, .slice a3 n.items.length k3, .string n.parent]) n := ⟨_, _, _, rfl, hA1, hS1, hI1⟩
    have hA1' := HA.out.gone hg (show w.heap.size ≠ w.heap.size + 1 + 1 by omega)
    have hE1' := HE.out.gone hg (show w.heap.size + 1 ≠ w.heap.size + 1 + 1 by omega)
    have hB1' := below_gone HB.out hg HB.out.size (show w.heap.size ≤ w.heap.size + 1 + 1 by omega)
    obtain ⟨w2, st2, hr2, hg2, hz2⟩ := run_store_row (P := Tryz.prog) hA1' 27 [.string n.name, .bool n.coll, .int .u8 n.access, .int .i64 n.max, .slice a1 n.affs.length k1, .slice a2 n.subs.length k2, .slice a3 n.items.length k3, .string n.parent] (sizeNode w1) rfl rfl (node_one _ _ _ _ _ _ _ _ rfl rfl rfl)
    have hv2 := hv.goneN hA1' hg2
    have hE2 := hE1'.gone hg2 (show w.heap.size + 1 ≠ w.heap.size by omega)
    have hB2 := below_gone hB1' hg2 hB1'.size (Nat.le_refl _)
    obtain ⟨w3, st3, hr3, hg3, _⟩ := run_store_one (P := Tryz.prog) hE2 29 0 (.int .i64 0) (Tryz.sizeOf29 _) (by simp) rfl rfl
    have hA3 := hr2.gone hg3 (show w.heap.size ≠ w.heap.size + 1 by omega)
    have hv3 : NodeV w3 (.agg #[.string n.name, .bool n.coll, .int .u8 n.access, .int .i64 n.max, .slice a1 n.affs.length k1, .slice a2 n.subs.length k2, .slice a3 n.items.length k3, .string n.parent]) n := hv2.goneE hE2 hg3
    have HB3 := Lib.hid (below_gone hB2 hg3 hB2.size (Nat.le_succ _))
    have HV3 := Lib.hid hv3
    have HBD := Lib.hid hbd
    have HAC := Lib.hid hac
    have HST2 := Lib.hid st2
    have HST3 := Lib.hid st3
    have e0 := hr3.at 0 _ rfl
    have c0 := hA3.at 0 _ rfl
    have c1 := hA3.at 1 _ rfl
    have c2 := hA3.at 2 _ rfl
    have c3 := hA3.at 3 _ rfl
    have c4 := hA3.at 4 _ rfl
    have c5 := hA3.at 5 _ rfl
    have c6 := hA3.at 6 _ rfl
    have c7 := hA3.at 7 _ rfl
    clear hv hA1' hE1' hB1' st2 hr2 hg2 hz2 hv2 hE2 hB2 st3 hr3 hg3 hA3 hv3 hbd hac hg hA1 hS1 hI1
    go_wp2_with (first
      | (refine wpList_store_run _ rfl 27 _ _ rfl _ _ rfl rfl HST2.out ?_)
      | (refine wpList_store_run _ rfl 29 _ _ rfl _ _ rfl rfl HST3.out ?_))
    refine leaves_cons (f := 14) (args := #[.pointer (some ⟨w.heap.size, 0, none⟩), .pointer (some ⟨w.heap.size + 1, 0, none⟩)]) (by simp) (by simp [go_sem]) ?_
    refine (catch_idle w.heap.size (w.heap.size + 1) _).mono ?_
    rintro e u' w4 ⟨rfl, rfl, hw4⟩
    subst hw4
    refine ⟨.tuple #[.agg #[.string n.name, .bool n.coll, .int .u8 n.access, .int .i64 n.max, .slice a1 n.affs.length k1, .slice a2 n.subs.length k2, .slice a3 n.items.length k3, .string n.parent], .int .i64 0], ?_, _, rfl, HV3.out, HBD.out, HAC.out, HB3.out⟩
    simp [results, Tryz.results6, go_sem, c0, c1, c2, c3, c4, c5, c6, c7, e0]
end Go.Proofs.YtpjaopcgoaannaaGreatDoor
