/- live(): a closed run, by the contracts. -/
import Derived.Test.YtpjaopcgoaannaaGreatDoorN22
namespace Go.Proofs.YtpjaopcgoaannaaGreatDoor
open Go.RowKit Go.Lib
open Hb

def nA : ByteArray := ⟨#[97, 64, 100]⟩
def nB : ByteArray := ⟨#[98, 64, 100]⟩
def n0 : PNode := ⟨⟨#[110]⟩, false, 1, 2, [⟨nA, 5⟩], [], [], ⟨#[]⟩⟩
def m0 : PNode := (subscribeN pr n0 nB 0).1
theorem l_right : rightN pr n0 = true := by decide +kernel
theorem l_cond : (subscribeN pr n0 nB 0).2 = 0 := by decide +kernel
theorem l_sub2 : (subN m0 nB).2 = true := by decide +kernel
theorem l_pend : (subN m0 nB).1.pending = true := by decide +kernel
theorem l_reads : readsN m0 nB = false := by decide +kernel
theorem l_role : roleN n0 nA = 5 := by decide +kernel
theorem bd_n0 : Bd n0 := ⟨by decide, by decide, by decide +kernel, by decide, by decide, by decide, by decide, by decide⟩
theorem bd_m0 : Bd m0 := ⟨by decide +kernel, by decide +kernel, by decide +kernel, by decide +kernel, by decide +kernel, by decide +kernel, by decide +kernel, by decide +kernel⟩

set_option maxRecDepth 100000 in
set_option maxHeartbeats 8000000 in
theorem live_any (w : World) : Calls Tryz.prog 8 #[] w fun e w' => e = .returned (.bool true) ∧ Below w.heap.size w w' := by
  obtain ⟨W0, hW0, hB0, hr1, hr2, hs⟩ := two w 49 27 [.string nA, .int .u8 5] [.string ⟨#[110]⟩, .bool false, .int .u8 1, .int .i64 2, .slice (some ⟨w.heap.size, 0, none⟩) 1 1, .slice none 0 0, .slice none 0 0, .string ⟨#[]⟩]
  have hv0 : NodeV W0 (.agg #[.string ⟨#[110]⟩, .bool false, .int .u8 1, .int .i64 2, .slice (some ⟨w.heap.size, 0, none⟩) 1 1, .slice none 0 0, .slice none 0 0, .string ⟨#[]⟩]) n0 := by
    refine ⟨_, _, _, rfl, ⟨_, 1, rfl, Nat.le_refl _, .inr ⟨w.heap.size, 0, rfl, by omega, ?_⟩⟩, SlE.nil _, SlE.nil _⟩
    intro i hi j hj
    obtain rfl : i = 0 := by have : i < 1 := hi; omega
    rw [show (0 + 0 * 2 + j : Nat) = j by omega]
    have hq : ∀ u, (PAff.enc ⟨nA, 5⟩)[j]? = some u → W0.cell? ⟨w.heap.size, j, none⟩ = some u := fun u hu => hr1.at j u hu
    show _ = (PAff.enc ⟨nA, 5⟩)[j]?
    cases hz : (PAff.enc ⟨nA, 5⟩)[j]? with
    | none => rw [List.getElem?_eq_none_iff, PAff.enc_len] at hz; omega
    | some u => exact hq u hz
  have hSub := (subscribe_any _ n0 nB 0 W0 hv0 bd_n0 (by decide))
  rw [l_cond] at hSub
  change Calls _ _ _ _ (fun e w' => ∃ v', e = .returned (.tuple #[v', .int .i64 0]) ∧ NodeV w' v' m0 ∧ Below W0.heap.size W0 w') at hSub
  have hRi : ∀ W, Below W0.heap.size W0 W → Calls Tryz.prog 9 _ W fun e w' => e = .returned (.bool true) ∧ Below W.heap.size W w' := fun W hW => by
    have := right_any _ n0 W (hv0.below hW) bd_n0
    rw [l_right] at this
    exact this
  have hRo : ∀ W, Below W0.heap.size W0 W → Calls Tryz.prog 22 #[_, .string nA] W fun e w' => e = .returned (.int .u8 5) ∧ Below W.heap.size W w' := fun W hW => by
    have := role_any _ n0 nA W (hv0.below hW) (by decide)
    rw [l_role] at this
    exact this
  have HSub := Lib.hid hSub
  have HRi : Hid _ := hRi
  have HRo : Hid _ := hRo
  have HW := Lib.hid hW0
  have HB := Lib.hid hB0
  have HR := Lib.hid hr2
  have c0 := hr2.at 0 _ rfl
  have c1 := hr2.at 1 _ rfl
  have c2 := hr2.at 2 _ rfl
  have c3 := hr2.at 3 _ rfl
  have c4 := hr2.at 4 _ rfl
  have c5 := hr2.at 5 _ rfl
  have c6 := hr2.at 6 _ rfl
  have c7 := hr2.at 7 _ rfl
  clear hW0 hB0 hr1 hr2 hs hv0 hSub hRi hRo
  unfold nA at *
  unfold nB at *
  go_enter Tryz.func8, Tryz.ntmps8
  go_upto_region 2 with fail
  rw [HW.out]
  clear HW
  go_wp2_with fail
  (with_reducible refine HSub.out.mono ?_)
  rintro e w1 ⟨v1, rfl, hv1, hB1⟩
  obtain ⟨A1, S1, I1, rfl, hA1, hS1, hI1⟩ := hv1
  obtain ⟨a1, k1, rfl⟩ := hA1.form
  obtain ⟨a2, k2, rfl⟩ := hS1.form
  obtain ⟨a3, k3, rfl⟩ := hI1.form
  have hv1 : NodeV w1 (.agg #[.string m0.name, .bool m0.coll, .int .u8 m0.access, .int .i64 m0.max, .slice a1 m0.affs.length k1, .slice a2 m0.subs.length k2, .slice a3 m0.items.length k3, .string m0.parent]) m0 := ⟨_, _, _, rfl, hA1, hS1, hI1⟩
  obtain ⟨W2, hW2, hB2, hr2, hs2⟩ := one w1 27 [.string m0.name, .bool m0.coll, .int .u8 m0.access, .int .i64 m0.max, .slice a1 m0.affs.length k1, .slice a2 m0.subs.length k2, .slice a3 m0.items.length k3, .string m0.parent]
  have hB02 := hB1.trans (hB2.mono hB1.size)
  have hv2 := hv1.below hB2
  have hSu := sub_any _ m0 ⟨#[98, 64, 100]⟩ W2 hv2 (by have := bd_m0.subs; omega)
  have hsp : (subN m0 ⟨#[98, 64, 100]⟩).1.pending = true := l_pend
  have hs2' : (subN m0 ⟨#[98, 64, 100]⟩).2 = true := l_sub2
  rw [hsp, hs2'] at hSu
  have hRe : ∀ W, Below W2.heap.size W2 W → Calls Tryz.prog 21 _ W fun e w' => e = .returned (.bool false) ∧ Below W.heap.size W w' := fun W hW => by
    have := reads_any _ m0 ⟨#[98, 64, 100]⟩ W (hv2.below hW) bd_m0
    rw [show readsN m0 ⟨#[98, 64, 100]⟩ = false from l_reads] at this
    exact this
  have HSu := Lib.hid hSu
  have HRe : Hid _ := hRe
  have HB02 := Lib.hid hB02
  have HBW := Lib.hid (hB02)
  have HR2 := Lib.hid hr2
  have HRx := Lib.hid (HR.out.below hB02)
  have g0 := hr2.at 0 _ rfl
  have g1 := hr2.at 1 _ rfl
  have g2 := hr2.at 2 _ rfl
  have g3 := hr2.at 3 _ rfl
  have g4 := hr2.at 4 _ rfl
  have g5 := hr2.at 5 _ rfl
  have g6 := hr2.at 6 _ rfl
  have g7 := hr2.at 7 _ rfl
  have HW2 := Lib.hid hW2
  clear hW2 hB2 hr2 hs2 hB02 hv2 hSu hRe hA1 hS1 hI1 hv1 hB1 hsp hs2' HSub HR
  generalize (subN m0 ⟨#[98, 64, 100]⟩).1.jid = sj at *
  generalize (subN m0 ⟨#[98, 64, 100]⟩).1.depth = sd at *
  go_upto_region 3 with fail
  rw [HW2.out]
  clear HW2
  go_wp2_with fail
  (with_reducible refine HSu.out.mono ?_)
  rintro e w3 ⟨rfl, hB3⟩
  obtain ⟨W4, hW4, hB4, hr4, hs4⟩ := one w3 51 [.string sj, .bool true, .int .i64 sd]
  have hB24 : Below W2.heap.size W2 W4 := hB3.trans (hB4.mono hB3.size)
  have hB04 := HB02.out.trans (hB24.mono HB02.out.size)
  have HR4 := HR2.out.below hB24
  have HX4 := HRx.out.below hB24
  have x0 := HX4.at 0 _ rfl
  have x1 := HX4.at 1 _ rfl
  have x2 := HX4.at 2 _ rfl
  have x3 := HX4.at 3 _ rfl
  have x4 := HX4.at 4 _ rfl
  have x5 := HX4.at 5 _ rfl
  have x6 := HX4.at 6 _ rfl
  have x7 := HX4.at 7 _ rfl
  have HRi4 := Lib.hid (HRi.out W4 hB04)
  have HW4 := Lib.hid hW4
  have HB24 := Lib.hid hB24
  have HB04 := Lib.hid hB04
  have HR4' := Lib.hid HR4
  have HX4' := Lib.hid HX4
  have HS4 := Lib.hid hr4
  clear hW4 hB4 hr4 hs4 hB24 hB04 HR4 HX4 hB3
  go_upto_region 4 with fail
  rw [HW4.out]
  clear HW4
  go_wp2_with fail
  (with_reducible refine HRi4.out.mono ?_)
  rintro e w5 ⟨rfl, hB5⟩
  have hB25 := HB24.out.trans (hB5.mono HB24.out.size)
  have hB05 := HB04.out.trans (hB5.mono HB04.out.size)
  have R5 := HR4'.out.below hB5
  have X5 := HX4'.out.below hB5
  have y1 := (HS4.out.below hB5).at 1 _ rfl
  have r0 := R5.at 0 _ rfl
  have r1 := R5.at 1 _ rfl
  have r2 := R5.at 2 _ rfl
  have r3 := R5.at 3 _ rfl
  have r4 := R5.at 4 _ rfl
  have r5 := R5.at 5 _ rfl
  have r6 := R5.at 6 _ rfl
  have r7 := R5.at 7 _ rfl
  have HRe5 := Lib.hid (HRe.out w5 hB25)
  have HX5 := Lib.hid X5
  have HB05 := Lib.hid hB05
  clear R5 X5 hB25 hB05
  go_wp2_with fail
  (with_reducible refine HRe5.out.mono ?_)
  rintro e w6 ⟨rfl, hB6⟩
  have hB06 := HB05.out.trans (hB6.mono HB05.out.size)
  have X6 := HX5.out.below hB6
  have z0 := X6.at 0 _ rfl
  have z1 := X6.at 1 _ rfl
  have z2 := X6.at 2 _ rfl
  have z3 := X6.at 3 _ rfl
  have z4 := X6.at 4 _ rfl
  have z5 := X6.at 5 _ rfl
  have z6 := X6.at 6 _ rfl
  have z7 := X6.at 7 _ rfl
  have HRo6 := Lib.hid (HRo.out w6 hB06)
  have HB06 := Lib.hid hB06
  clear X6 hB06
  go_wp2_with fail
  (with_reducible refine HRo6.out.mono ?_)
  rintro e w7 ⟨rfl, hB7⟩
  have HB07 := Lib.hid ((HB.out.trans (HB06.out.mono HB.out.size)).trans (hB7.mono (Nat.le_trans HB.out.size HB06.out.size)))
  go_wp2_with fail
  go_returns
  exact ⟨rfl, HB07.out⟩
end Go.Proofs.YtpjaopcgoaannaaGreatDoor
