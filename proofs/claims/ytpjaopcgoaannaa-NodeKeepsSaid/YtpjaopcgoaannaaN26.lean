/- NodeKeeps: the walk. -/
import Derived.Test.YtpjaopcgoaannaaN25
import Derived.Test.YtpjaopcgoaannaaN29
import Derived.Test.YtpjaopcgoaannaaN31
import Derived.Laws.IdiomStrings
namespace Go.Proofs.Ytpjaopcgoaannaa
open Go.RowKit Go.Lib
open Hb


theorem OwE.info1 : (Try.prog.info? 9).map (fun i => (i.zero, i.size, i.bytes)) = some (some (.string ⟨#[]⟩), 1, 16) := by kernel_rfl
theorem SlE.goneA {α : Type} {enc : α → List Value} {k : Nat} {w w6 w' : World} {v : Value} {l : List α} {A : Nat} (h : SlE enc k w v l) (hg : w6.grownBy w' (some A)) (hne : v.ownBlock ≠ some A) (hb : Below w.heap.size w w6) : SlE enc k w' v l := by
  obtain ⟨a, c, rfl, hc, h⟩ := h.below hb
  refine ⟨a, c, rfl, hc, ?_⟩
  rcases h with h | ⟨g, off, ha, hgl, hx⟩
  · exact .inl h
  · subst ha
    have hgA : g ≠ A := fun e => hne (by rw [← e]; rfl)
    exact .inr ⟨g, off, rfl, Nat.lt_of_lt_of_le hgl hg.size, fun i hi j hj => (World.cell?_of_block (w := w6) (a := ⟨g, off + i * k + j, none⟩) (hg.block g hgl (fun e => hgA (Option.some.inj e)))).trans (hx i hi j hj)⟩
theorem own_sliced (a : Option Addr) (c lo m n d n' d' : Nat) : (Value.slice (if c = lo then a else a.map (·.add m)) n d).ownBlock = (Value.slice a n' d').ownBlock := by
  split
  · cases a <;> rfl
  · cases a with
    | none => rfl
    | some a =>
      obtain ⟨g, o, s⟩ := a
      show some (Addr.add ⟨g, o, s⟩ m).block = some g
      unfold Addr.add
      split <;> rfl
theorem encS_len (x : ByteArray) : (encS x).length = 1 := rfl
theorem want_len (k : Nat) (want : List ByteArray) (id : ByteArray) : (wantN k want id).length ≤ k := by
  unfold wantN
  rw [List.length_drop]
  omega
theorem take_filter {p : ByteArray → Bool} {l : List ByteArray} {j : Nat} (h : j < l.length) : (l.take (j + 1)).filter p = (l.take j).filter p ++ if p l[j] then [l[j]] else [] := by
  rw [← List.take_append_getElem h, List.filter_append]
  congr 1
  by_cases hp : p l[j] = true
  · rw [if_pos hp, List.filter_cons_of_pos hp]; rfl
  · rw [if_neg hp, List.filter_cons_of_neg hp]; rfl
theorem idN_conv (b : UInt8) (w : World) (g : Nat) (h : w.cell? ⟨g, 0, none⟩ = some (.int .u8 (97 + (b.toNat : Int) % 12))) : (convert 22 9 (.slice (some ⟨g, 0, none⟩) 1 1)).run Try.prog w = .ok (.string (idN b)) w := by
  refine run_convert_bytes_back w 22 9 5 ⟨g, 0, none⟩ 1 [97 + b % 12] Try.underlying22 Try.underlying5 Try.underlying9 ?_
  intro j hj
  obtain rfl : j = 0 := by simp at hj; omega
  have hb : (97 + b % 12).toNat = 97 + b.toNat % 12 := by
    have := Nat.mod_lt b.toNat (show 0 < 12 by decide)
    rw [UInt8.toNat_add, UInt8.toNat_mod]
    show (97 + b.toNat % 12) % 256 = _
    omega
  have h0 : (⟨g, 0, none⟩ : Addr).add 0 = ⟨g, 0, none⟩ := by simp [Addr.add]
  rw [h0, h]
  show _ = some (Value.int .u8 ((97 + b % 12).toNat : Int))
  rw [hb]
  rfl

set_option maxRecDepth 100000 in
set_option maxHeartbeats 8000000 in
theorem nodeKeeps_walk (w : World) (vi : Value) (ids : List UInt8) (hi : SlE encB 1 w vi ids) (hil : ids.length ≤ maxLen) (m : Int) (hm0 : 0 ≤ m) (hm1 : m ≤ 255) :
    Calls Try.prog 3 #[vi, .int .u8 m] w fun e w' => e = .returned (.bool true) ∧ Below w.heap.size w w' := by
  obtain ⟨ai, ci, rfl⟩ := hi.form
  obtain ⟨K, hK⟩ : ∃ K : Nat, K = (m % 9).toNat := ⟨_, rfl⟩
  have hK8 : K ≤ 8 := by omega
  have hmK : m % 9 = (K : Int) := by omega
  obtain ⟨hc0, hk0⟩ := keep_start K hK8
  have HI := Lib.hid hi
  have HIL := Lib.hid hil
  have HBe := Lib.hid (fun W => begun_any 0 true W (by decide) (by decide))
  have hmt : Int.tmod m 9 = (K : Int) := by rw [Int.tmod_eq_emod_of_nonneg hm0]; exact hmK
  have HK8 := Lib.hid hK8
  have hcf : ∀ v1 w1, NodeV w1 v1 (begunN 0 true) → Calls Try.prog 8 #[v1, .string ⟨#[97, 64, 100]⟩, .int .u8 0, .int .i64 (K : Int)] w1 fun e w' => ∃ v', e = .returned (.tuple #[v', .int .i64 0]) ∧ NodeV w' v' (configureN pr (begunN 0 true) nA 0 K).1 ∧ Below w1.heap.size w1 w' := by
    intro v1 w1 hv1
    have h := configure_any v1 (begunN 0 true) nA 0 K w1 hv1 (by exact ⟨by decide, by decide, by decide +kernel, by decide, by decide, by decide, by decide, by decide⟩)
    rw [hc0] at h
    exact h
  generalize (configureN pr (begunN 0 true) nA 0 K).1 = n0 at hcf hk0
  have HCf := Lib.hid hcf
  have HK0 := Lib.hid hk0
  clear hK hi hil hc0 hk0 hmK hcf
  go_enter Try.func3, Try.ntmps3
  go_wp2_with fail
  (with_reducible refine (HBe.out _).mono ?_)
  rintro e w1 ⟨v1, rfl, hv1, hB1⟩
  have HCf1 := Lib.hid (HCf.out v1 w1 hv1)
  clear hv1 HCf HBe
  go_wp2_with fail
  (with_reducible refine HCf1.out.mono ?_)
  rintro e w2 ⟨v2, rfl, hv2, hB2⟩
  have hB02 := hB1.trans (hB2.mono hB1.size)
  obtain ⟨A2, S2, I2, rfl, hA2, hS2, hI2⟩ := hv2
  obtain ⟨a1, k1, rfl⟩ := hA2.form
  obtain ⟨a2, k2, rfl⟩ := hS2.form
  obtain ⟨a3, k3, rfl⟩ := hI2.form
  obtain ⟨w3, hw3, hB3, hr3, hs3⟩ := one w2 28 [.string n0.name, .bool n0.coll, .int .u8 n0.access, .int .i64 n0.max, .slice a1 n0.affs.length k1, .slice a2 n0.subs.length k2, .slice a3 n0.items.length k3, .string n0.parent]
  have hv3 : NodeV w3 (.agg #[.string n0.name, .bool n0.coll, .int .u8 n0.access, .int .i64 n0.max, .slice a1 n0.affs.length k1, .slice a2 n0.subs.length k2, .slice a3 n0.items.length k3, .string n0.parent]) n0 := NodeV.below ⟨_, _, _, rfl, hA2, hS2, hI2⟩ hB3
  have HW3 := Lib.hid hw3
  have HB3 := Lib.hid (hB02.trans (hB3.mono hB02.size))
  have HR3 := Lib.hid hr3
  have HV3 := Lib.hid hv3
  have HA5 := Lib.hid (show w.heap.size ≤ w2.heap.size from hB02.size)
  clear hw3 hB3 hr3 hs3 hv3 hA2 hS2 hI2 hB02 hB1 hB2 HCf1
  go_upto_region 2 with fail
  rw [HW3.out]
  clear HW3
  go_upto_region 6 with fail
  go_loopw [7, 8] (fun ov iv W => ∃ (k : Nat) (want : List ByteArray) (n : PNode) (a1 a2 a3 : Option Addr) (k1 k2 k3 : Nat), k ≤ ids.length ∧ iv = .int .i64 k ∧ Hid (SlE encS 1 W ov want) ∧ Hid (ov.ownBlock ≠ some w2.heap.size) ∧ Hid (RowI W w2.heap.size 28 8 [.string n.name, .bool n.coll, .int .u8 n.access, .int .i64 n.max, .slice a1 n.affs.length k1, .slice a2 n.subs.length k2, .slice a3 n.items.length k3, .string n.parent]) ∧ Hid (NodeV W (.agg #[.string n.name, .bool n.coll, .int .u8 n.access, .int .i64 n.max, .slice a1 n.affs.length k1, .slice a2 n.subs.length k2, .slice a3 n.items.length k3, .string n.parent]) n) ∧ Hid (Keep K n want) ∧ Hid (want.length ≤ K) ∧ Hid (Below w.heap.size w W)) (fun _ iv _ => ids.length - (intOf iv).toNat)
  case atStart => exact ⟨0, [], n0, a1, a2, a3, k1, k2, k3, Nat.zero_le _, rfl, SlE.nil _, by show (none : Option Nat) ≠ _; simp, HR3.out, HV3.out, HK0.out, Nat.zero_le _, HB3.out⟩
  case round =>
    obtain ⟨k, want, n, b1, b2, b3, l1, l2, l3, hk, rfl, HS, HO, HR, HV, HK, HL, HB⟩ := hrel
    obtain ⟨so, co, rfl⟩ := HS.out.form
    by_cases hlt : k < ids.length
    · have ck : decide ((k : Int) < (ids.length : Int)) = true := by rw [decide_eq_true_eq]; omega
      by_cases h40 : k < 40
      · have c40 : decide ((k : Int) < 40) = true := by rw [decide_eq_true_eq]; omega
        obtain ⟨g, off, hag, hcell⟩ : ∃ g off, ai = some (⟨g, off, none⟩ : Addr) ∧ wr.cell? ⟨g, off + k, none⟩ = some (.int .u8 ids[k].toNat) := by
          obtain ⟨_, _, e, _, hx⟩ := HI.out.below HB.out
          cases e
          rcases hx with hx | ⟨g, off, ha, _, hx⟩
          · rw [hx] at hlt; cases hlt
          · have := hx k hlt 0 (by decide)
            rw [Nat.mul_one, Nat.add_zero] at this
            exact ⟨g, off, ha, this⟩
        subst hag
        generalize hbt : ids[k] = bt at hcell
        obtain ⟨w4, hw4, hB4, hr4, hs4⟩ := one wr 5 [.int .u8 (97 + (bt.toNat : Int) % 12)]
        have hcv := idN_conv bt w4 wr.heap.size (hr4.at 0 _ rfl)
        rw [← hw4] at hcv
        have HB4 := Lib.hid (HB.out.trans (hB4.mono HB.out.size))
        have HR4 := Lib.hid (HR.out.below hB4)
        have HV4 := Lib.hid (HV.out.below hB4)
        have HS4 := Lib.hid (HS.out.below hB4)
        obtain ⟨hp0, hkn⟩ := keep_step HK.out (idN bt) (idN_name bt) (show (1 : Nat) ≤ 9223372036854775806 by decide)
        have hpub := publish_any _ n nA (idN bt) xB w4 HV4.out HK.out.bd (show (1 : Nat) ≤ 9223372036854775806 by decide) (by decide)
        rw [hp0] at hpub
        generalize (publishN pr n nA (idN bt) xB).1 = n' at hpub hkn
        generalize hidv : idN bt = idv at hcv hpub hkn
        unfold nA xB at hpub
        have HPB := Lib.hid hpub
        have HKN := Lib.hid hkn
        have HW4 := Lib.hid hw4
        have c0 := HR4.out.at 0 _ rfl
        have c1 := HR4.out.at 1 _ rfl
        have c2 := HR4.out.at 2 _ rfl
        have c3 := HR4.out.at 3 _ rfl
        have c4 := HR4.out.at 4 _ rfl
        have c5 := HR4.out.at 5 _ rfl
        have c6 := HR4.out.at 6 _ rfl
        have c7 := HR4.out.at 7 _ rfl
        clear hbt hB4 hr4 hs4 hp0 hpub hkn hw4 hidv
        go_upto_region 9 with fail
        rw [HW4.out]
        clear HW4 hcv
        go_wp2_with fail
        (with_reducible refine HPB.out.mono ?_)
        rintro e w5 ⟨v5, rfl, hv5, hB5⟩
        obtain ⟨A5, S5, I5, rfl, hA5, hS5, hI5⟩ := hv5
        obtain ⟨d1, m1, rfl⟩ := hA5.form
        obtain ⟨d2, m2, rfl⟩ := hS5.form
        obtain ⟨d3, m3, rfl⟩ := hI5.form
        obtain ⟨w6, hw6, hB6, hr6, hs6⟩ := one w5 28 [.string n'.name, .bool n'.coll, .int .u8 n'.access, .int .i64 n'.max, .slice d1 n'.affs.length m1, .slice d2 n'.subs.length m2, .slice d3 n'.items.length m3, .string n'.parent]
        have hB46 : Below w4.heap.size w4 w6 := hB5.trans (hB6.mono hB5.size)
        have hv6 : NodeV w6 (.agg #[.string n'.name, .bool n'.coll, .int .u8 n'.access, .int .i64 n'.max, .slice d1 n'.affs.length m1, .slice d2 n'.subs.length m2, .slice d3 n'.items.length m3, .string n'.parent]) n' := NodeV.below ⟨_, _, _, rfl, hA5, hS5, hI5⟩ hB6
        have hR6 := HR4.out.below hB46
        obtain ⟨w7, st7, hr7, hg7, hs7⟩ := run_store_row (P := Try.prog) hR6 28 [.string n'.name, .bool n'.coll, .int .u8 n'.access, .int .i64 n'.max, .slice d1 n'.affs.length m1, .slice d2 n'.subs.length m2, .slice d3 n'.items.length m3, .string n'.parent] (sizeNode w6) rfl rfl (node_one _ _ _ _ _ _ _ _ rfl rfl rfl)
        have HV7 := Lib.hid (hv6.goneN hR6 hg7)
        have hne5 : w5.heap.size ≠ w2.heap.size := by have := HR4.out.lt; have := hB5.size; omega
        have HB7 := Lib.hid (below_gone (HB4.out.trans (hB46.mono HB4.out.size)) hg7 (Nat.le_trans HB4.out.size hB46.size) HA5.out)
        have HS7 : Hid (SlE encS 1 w7 _ want) := HS4.out.goneA hg7 HO.out hB46
        have dd0 := hr6.at 0 _ rfl
        have dd1 := hr6.at 1 _ rfl
        have dd2 := hr6.at 2 _ rfl
        have dd3 := hr6.at 3 _ rfl
        have dd4 := hr6.at 4 _ rfl
        have dd5 := hr6.at 5 _ rfl
        have dd6 := hr6.at 6 _ rfl
        have dd7 := hr6.at 7 _ rfl
        have HR7 := Lib.hid hr7
        have ST7 := Lib.hid st7
        have HW6 := Lib.hid hw6
        clear hw6 hB6 hr6 hs6 hB46 hv6 hR6 st7 hr7 hg7 hs7 hne5 hA5 hS5 hI5 hB5 HPB HV4 HR4 HB4 HS4 HR HV HB HS c0 c1 c2 c3 c4 c5 c6 c7
        go_upto_region 10 with fail
        rw [HW6.out]
        clear HW6
        go_wp2_with (refine wpList_store_run _ rfl 28 _ _ rfl _ _ rfl rfl ST7.out ?_)
        have hwl : want.length ≤ 8 := Nat.le_trans HL.out HK8.out
        go_loopw [12, 13] (fun lv jv W => ∃ (j : Nat) (l : List ByteArray), j ≤ want.length ∧ jv = .int .i64 j ∧ Hid (l = (want.take j).filter (fun y => !eqS y idv)) ∧ Hid (OwE encS 1 W w7.heap.size 9 lv l) ∧ Hid (Below w7.heap.size w7 W)) (fun _ jv _ => want.length - (intOf jv).toNat)
        case atStart => exact ⟨0, [], Nat.zero_le _, rfl, rfl, World.ownsRow_nil _ _ _ _, Below.refl _ _⟩
        case round =>
          obtain ⟨j, l, hj, rfl, HLe, HO2, HB2⟩ := hrel
          obtain ⟨sl, cl, rfl⟩ := row_slice HO2.out
          have HLn : Hid (l.length ≤ 8) := by
            show _ ≤ _
            rw [HLe.out]
            have := List.length_filter_le (fun y => !eqS y idv) (want.take j)
            rw [List.length_take] at this
            have := HL.out
            have := HK8.out
            omega
          by_cases hjl : j < want.length
          · have cj : decide ((j : Int) < (want.length : Int)) = true := by rw [decide_eq_true_eq]; omega
            obtain ⟨g2, off2, hag, hcell2⟩ := (HS7.out.below HB2.out).at j hjl
            have hc2 := hcell2 0 (by decide)
            rw [Nat.mul_one, Nat.add_zero] at hc2
            change _ = some (Value.string want[j]) at hc2
            subst hag
            have HTF := Lib.hid (take_filter (p := fun y => !eqS y idv) hjl)
            generalize want[j] = x at hc2 HTF
            clear hcell2
            cases hq : eqS x idv with
            | true =>
              have hx : (x.toList == idv.toList) = true := hq
              have HF : Hid (l = (want.take (j + 1)).filter (fun y => !eqS y idv)) := by
                show _ = _
                rw [HTF.out, ← HLe.out]
                simp [hq]
              have hxx : x = idv := eqS_iff.1 hq
              clear hq HTF
              go_wp2_with fail
              go_roundw
              case rel => exact ⟨j + 1, l, by omega, by go_num, HF.out, HO2.out, HB2.out⟩
              case measure => simp [intOf]; omega
            | false =>
              have hx : (x.toList == idv.toList) = false := hq
              have HF : Hid (l ++ [x] = (want.take (j + 1)).filter (fun y => !eqS y idv)) := by
                show _ = _
                rw [HTF.out, ← HLe.out]
                simp [hq]
              obtain ⟨wx, hwx, hBx, hrx, hsx⟩ := one wr 9 [.string x]
              have HWX := Lib.hid hwx
              have HOX := Lib.hid (HO2.out.below hBx)
              have HCX := Lib.hid (fun (q : Nat) (u : Value) (hq : [Value.string x][q]? = some u) => (show wx.cell? ((⟨wr.heap.size, 0, none⟩ : Addr).add q) = some u by
                have ha : (⟨wr.heap.size, 0, none⟩ : Addr).add q = ⟨wr.heap.size, q, none⟩ := by unfold Addr.add; split <;> simp_all
                rw [ha]; exact hrx.at q u hq))
              have HSX := Lib.hid (show w7.heap.size ≤ wx.heap.size from Nat.le_trans HB2.out.size hBx.size)
              have HBX := Lib.hid (HB2.out.trans (hBx.mono HB2.out.size))
              obtain ⟨j0, hii, hz0, hz1, hz2⟩ := info_parts OwE.info1
              have HII := Lib.hid (And.intro hii (And.intro hz0 (And.intro hz1 hz2)))
              clear hq HTF hwx hBx hrx hsx hii hz0 hz1 hz2
              go_wp2_with (at_builtin; rw [HWX.out]; refine wpList_append_own _ rfl (.tmp 64) (.tmp 69) 33 rfl w7.heap.size 9 j0 _ 1 16 Try.underlying33 HII.out.1 HII.out.2.1 HII.out.2.2.1 HII.out.2.2.2 rfl (by omega) (.slice sl l.length cl) l.length (l.flatMap encS) rfl HOX.out ⟨wr.heap.size, 0, none⟩ 1 1 [.string x] rfl rfl HCX.out (by simp [Value.oneCell']) (by have := HLn.out; simp only [maxLen]; omega) (by have := HLn.out; omega) HSX.out ?_; intro v8 w8 hown hg _; obtain ⟨sa8, sc8, rfl⟩ := row_slice hown)
              go_roundw
              case rel =>
                refine ⟨j + 1, l ++ [x], by omega, by go_num, HF.out, ?_, below_goneR HBX.out hg HOX.out HSX.out (Nat.le_refl _)⟩
                show OwE _ _ _ _ _ _ _
                unfold OwE
                rw [List.length_append, List.flatMap_append]
                exact hown
              case measure => simp [intOf]; omega
          · have cj : decide ((j : Int) < (want.length : Int)) = false := by rw [decide_eq_false_iff_not]; omega
            have hjw : j = want.length := by omega
            subst hjw
            rw [List.take_length] at HLe
            obtain ⟨wx, hwx, hBx, hrx, hsx⟩ := one wr 9 [.string idv]
            have HWX := Lib.hid hwx
            have HOX := Lib.hid (HO2.out.below hBx)
            have HCX := Lib.hid (fun (q : Nat) (u : Value) (hq : [Value.string idv][q]? = some u) => (show wx.cell? ((⟨wr.heap.size, 0, none⟩ : Addr).add q) = some u by
              have ha : (⟨wr.heap.size, 0, none⟩ : Addr).add q = ⟨wr.heap.size, q, none⟩ := by unfold Addr.add; split <;> simp_all
              rw [ha]; exact hrx.at q u hq))
            have HSX := Lib.hid (show w7.heap.size ≤ wx.heap.size from Nat.le_trans HB2.out.size hBx.size)
            have HBX := Lib.hid (HB2.out.trans (hBx.mono HB2.out.size))
            obtain ⟨j0, hii, hz0, hz1, hz2⟩ := info_parts OwE.info1
            have HII := Lib.hid (And.intro hii (And.intro hz0 (And.intro hz1 hz2)))
            clear hwx hBx hrx hsx hii hz0 hz1 hz2
            go_upto_region 20 with (at_builtin; rw [HWX.out]; refine wpList_append_own _ rfl (.tmp 71) (.tmp 73) 33 rfl w7.heap.size 9 j0 _ 1 16 Try.underlying33 HII.out.1 HII.out.2.1 HII.out.2.2.1 HII.out.2.2.2 rfl (by omega) (.slice sl l.length cl) l.length (l.flatMap encS) rfl HOX.out ⟨wr.heap.size, 0, none⟩ 1 1 [.string idv] rfl rfl HCX.out (by simp [Value.oneCell']) (by have := HLn.out; simp only [maxLen]; omega) (by have := HLn.out; omega) HSX.out ?_; intro v8 w8 hown hg _; obtain ⟨sa8, sc8, rfl⟩ := row_slice hown)
            have HO8 : Hid (OwE encS 1 w8 w7.heap.size 9 (.slice sa8 (l.length + 1) sc8) (l ++ [idv])) := by
              show OwE _ _ _ _ _ _ _
              unfold OwE
              rw [List.length_append, List.flatMap_append]
              exact hown
            have HB8 := Lib.hid (below_goneR HBX.out hg HOX.out HSX.out (Nat.le_refl _))
            have HWN : Hid (wantN K want idv = (l ++ [idv]).drop (l.length + 1 - K)) := by
              show _ = _
              unfold wantN
              rw [HLe.out, List.length_append]
              rfl
            obtain ⟨n1, hn1⟩ : ∃ n1, n1 = l.length + 1 := ⟨_, rfl⟩
            have HN1 := Lib.hid hn1
            have hn9 : n1 ≤ 9 := by have := HLn.out; omega
            rw [← hn1] at HO8 HWN ⊢
            have hS8 := HO8.out.sl encS_len
            have HS8 := Lib.hid hS8
            have HO8' := Lib.hid (HO8.out.lo HR7.out.lt)
            have HR8 := Lib.hid (HR7.out.below HB8.out)
            have HV8 := Lib.hid (HV7.out.below HB8.out)
            have HBW := Lib.hid (HB7.out.trans (HB8.out.mono HB7.out.size))
            have hK8 := HK8.out
            have hsc : n1 ≤ sc8 := by obtain ⟨_, _, e, hc, _⟩ := hS8; injection e with e1 e2 e3; rw [e2, e3]; exact hc
            clear hown hg hn1 hS8
            by_cases hKl : K < n1
            · have eK : decide ((K : Int) < (n1 : Int)) = true := by rw [decide_eq_true_eq]; omega
              obtain ⟨lo, hlo⟩ : ∃ lo, lo = n1 - K := ⟨_, rfl⟩
              have hsub : (n1 : Int) - (K : Int) = (lo : Int) := by omega
              have hdr := (HS8.out.drop lo (by rw [List.length_append]; have := HN1.out; simp; omega)).2
              have hol := HO8'.out
              rw [← own_sliced sa8 sc8 lo (lo * 1) (n1 - lo) (sc8 - lo)] at hol
              rw [← hlo] at HWN
              rw [← HWN.out] at hdr
              have hl1 : (l ++ [idv]).length = n1 := by rw [List.length_append]; exact HN1.out.symm
              rw [hl1] at hdr
              have HDR := Lib.hid hdr
              have HOL := Lib.hid hol
              have b1 : lo ≤ n1 := by omega
              clear hlo hdr hol hl1
              go_wp2_with fail
              rw [Nat.mul_one] at HDR HOL
              exact ⟨⟨k + 1, wantN K want idv, n', d1, d2, d3, m1, m2, m3, by omega, by go_num, HDR.out, HOL.out, HR8.out, HV8.out, HKN.out, want_len _ _ _, HBW.out⟩, by simp [intOf]; omega⟩
            · have eK : decide ((K : Int) < (n1 : Int)) = false := by rw [decide_eq_false_iff_not]; omega
              go_wp2_with fail
              go_roundw
              case rel =>
                refine ⟨k + 1, wantN K want idv, n', d1, d2, d3, m1, m2, m3, by omega, by go_num, ?_, HO8'.out, HR8.out, HV8.out, HKN.out, want_len _ _ _, HBW.out⟩
                show SlE _ _ _ _ _
                rw [HWN.out, show n1 - K = 0 by omega, List.drop_zero]
                exact HS8.out
              case measure => simp [intOf]; omega
      · have c40 : decide ((k : Int) < 40) = false := by rw [decide_eq_false_iff_not]; omega
        have hil : n.items.length = want.length := by rw [← HK.out.ids, List.length_map]
        have hI3 : SlE PItem.enc 3 wr (.slice b3 n.items.length l3) n.items := by
          obtain ⟨_, _, _, e, _, _, hI⟩ := HV.out
          cases e
          exact hI
        have hcell3 : ∀ (q : Nat) (hq : q < want.length), ∃ g3 off3, b3 = some (⟨g3, off3, none⟩ : Addr) ∧ ∀ W, Below wr.heap.size wr W → W.cell? ⟨g3, off3 + q * 3, none⟩ = some (.string want[q]) ∧ W.cell? ⟨g3, off3 + q * 3 + 1, none⟩ = some (.string nA) := by
          intro q hq
          have hq2 : q < n.items.length := by omega
          obtain ⟨g3, off3, hb, hc⟩ := hI3.at q hq2
          have hlt : g3 < wr.heap.size := by
            obtain ⟨_, _, e, _, hx⟩ := hI3
            injection e with e1 e2 e3
            rcases hx with hx | ⟨g, o, ha, hg, _⟩
            · rw [hx] at hq2; cases hq2
            · rw [← e1, hb] at ha
              cases ha
              exact hg
          have hid : n.items[q].id = want[q] := by
            have h1 := HK.out.ids
            subst h1
            simp
          have hpb : n.items[q].pub = nA := HK.out.pub _ (List.getElem_mem hq2)
          refine ⟨g3, off3, hb, fun W hW => ⟨?_, ?_⟩⟩
          · rw [hW.cell (p := ⟨g3, off3 + q * 3, none⟩) hlt, ← hid]
            exact hc 0 (by decide)
          · rw [hW.cell (p := ⟨g3, off3 + q * 3 + 1, none⟩) hlt, ← hpb]
            exact hc 1 (by decide)
        have HC3 := Lib.hid hcell3
        have hrw := HR.out
        rw [hil] at hrw
        have HR9 := Lib.hid hrw
        have HLV := Lib.hid live_any
        have hwl : want.length ≤ 8 := Nat.le_trans HL.out HK8.out
        clear hI3 hcell3 hrw hil HR HV
        go_upto_region 23 with fail
        go_loopw [14] (fun jv W => ∃ j : Nat, j ≤ want.length ∧ jv = .int .i64 j ∧ Hid (Below wr.heap.size wr W)) (fun jv _ => want.length - (intOf jv).toNat)
        case atStart => exact ⟨0, Nat.zero_le _, rfl, Below.refl _ _⟩
        case round =>
          obtain ⟨j, hj, rfl, HB2⟩ := hrel
          have hRw := HR9.out.below HB2.out
          have f6 := hRw.at 6 _ rfl
          by_cases hjl : j < want.length
          · have cj : decide ((j : Int) < (want.length : Int)) = true := by rw [decide_eq_true_eq]; omega
            have cj2 : decide ((want.length : Int) ≤ (j : Int)) = false := by rw [decide_eq_false_iff_not]; omega
            obtain ⟨g3, off3, hb, hc⟩ := HC3.out j hjl
            obtain ⟨e0, e1⟩ := hc _ HB2.out
            obtain ⟨g2, off2, hag, hcell2⟩ := (HS.out.below HB2.out).at j hjl
            have e2 := hcell2 0 (by decide)
            rw [Nat.mul_one, Nat.add_zero] at e2
            change _ = some (Value.string want[j]) at e2
            subst hb
            subst hag
            generalize want[j] = x at e0 e2
            unfold nA at e1
            have hxx : (x.toList == x.toList) = true := by simp
            clear hc hcell2 hRw
            go_wp2_with fail
            go_quiet (fail)
            go_wp2_with fail
            go_roundw
            case rel => exact ⟨j + 1, by omega, by go_num, bdrewN HB2.out nq⟩
            case measure => simp [intOf]; omega
          · have cj : decide ((j : Int) < (want.length : Int)) = false := by rw [decide_eq_false_iff_not]; omega
            have HBq := Lib.hid (HB.out.trans (HB2.out.mono HB.out.size))
            have HRw := Lib.hid hRw
            clear hRw f6
            go_wp2_with fail
            (with_reducible refine (HLV.out _).mono ?_)
            rintro e w9 ⟨rfl, hB9⟩
            have f6 := (HRw.out.below hB9).at 6 _ rfl
            have HB9 := Lib.hid (HBq.out.trans (hB9.mono HBq.out.size))
            clear hB9
            go_wp2_with fail
            go_returns
            exact ⟨rfl, HB9.out⟩
    · have ck : decide ((k : Int) < (ids.length : Int)) = false := by rw [decide_eq_false_iff_not]; omega
      have hil : n.items.length = want.length := by rw [← HK.out.ids, List.length_map]
      have hI3 : SlE PItem.enc 3 wr (.slice b3 n.items.length l3) n.items := by
        obtain ⟨_, _, _, e, _, _, hI⟩ := HV.out
        cases e
        exact hI
      have hcell3 : ∀ (q : Nat) (hq : q < want.length), ∃ g3 off3, b3 = some (⟨g3, off3, none⟩ : Addr) ∧ ∀ W, Below wr.heap.size wr W → W.cell? ⟨g3, off3 + q * 3, none⟩ = some (.string want[q]) ∧ W.cell? ⟨g3, off3 + q * 3 + 1, none⟩ = some (.string nA) := by
        intro q hq
        have hq2 : q < n.items.length := by omega
        obtain ⟨g3, off3, hb, hc⟩ := hI3.at q hq2
        have hlt : g3 < wr.heap.size := by
          obtain ⟨_, _, e, _, hx⟩ := hI3
          injection e with e1 e2 e3
          rcases hx with hx | ⟨g, o, ha, hg, _⟩
          · rw [hx] at hq2; cases hq2
          · rw [← e1, hb] at ha
            cases ha
            exact hg
        have hid : n.items[q].id = want[q] := by
          have h1 := HK.out.ids
          subst h1
          simp
        have hpb : n.items[q].pub = nA := HK.out.pub _ (List.getElem_mem hq2)
        refine ⟨g3, off3, hb, fun W hW => ⟨?_, ?_⟩⟩
        · rw [hW.cell (p := ⟨g3, off3 + q * 3, none⟩) hlt, ← hid]
          exact hc 0 (by decide)
        · rw [hW.cell (p := ⟨g3, off3 + q * 3 + 1, none⟩) hlt, ← hpb]
          exact hc 1 (by decide)
      have HC3 := Lib.hid hcell3
      have hrw := HR.out
      rw [hil] at hrw
      have HR9 := Lib.hid hrw
      have HLV := Lib.hid live_any
      have hwl : want.length ≤ 8 := Nat.le_trans HL.out HK8.out
      clear hI3 hcell3 hrw hil HR HV
      go_upto_region 23 with fail
      go_loopw [14] (fun jv W => ∃ j : Nat, j ≤ want.length ∧ jv = .int .i64 j ∧ Hid (Below wr.heap.size wr W)) (fun jv _ => want.length - (intOf jv).toNat)
      case atStart => exact ⟨0, Nat.zero_le _, rfl, Below.refl _ _⟩
      case round =>
        obtain ⟨j, hj, rfl, HB2⟩ := hrel
        have hRw := HR9.out.below HB2.out
        have f6 := hRw.at 6 _ rfl
        by_cases hjl : j < want.length
        · have cj : decide ((j : Int) < (want.length : Int)) = true := by rw [decide_eq_true_eq]; omega
          have cj2 : decide ((want.length : Int) ≤ (j : Int)) = false := by rw [decide_eq_false_iff_not]; omega
          obtain ⟨g3, off3, hb, hc⟩ := HC3.out j hjl
          obtain ⟨e0, e1⟩ := hc _ HB2.out
          obtain ⟨g2, off2, hag, hcell2⟩ := (HS.out.below HB2.out).at j hjl
          have e2 := hcell2 0 (by decide)
          rw [Nat.mul_one, Nat.add_zero] at e2
          change _ = some (Value.string want[j]) at e2
          subst hb
          subst hag
          generalize want[j] = x at e0 e2
          unfold nA at e1
          have hxx : (x.toList == x.toList) = true := by simp
          clear hc hcell2 hRw
          go_wp2_with fail
          go_quiet (fail)
          go_wp2_with fail
          go_roundw
          case rel => exact ⟨j + 1, by omega, by go_num, bdrewN HB2.out nq⟩
          case measure => simp [intOf]; omega
        · have cj : decide ((j : Int) < (want.length : Int)) = false := by rw [decide_eq_false_iff_not]; omega
          have HBq := Lib.hid (HB.out.trans (HB2.out.mono HB.out.size))
          have HRw := Lib.hid hRw
          clear hRw f6
          go_wp2_with fail
          (with_reducible refine (HLV.out _).mono ?_)
          rintro e w9 ⟨rfl, hB9⟩
          have f6 := (HRw.out.below hB9).at 6 _ rfl
          have HB9 := Lib.hid (HBq.out.trans (hB9.mono HBq.out.size))
          clear hB9
          go_wp2_with fail
          go_returns
          exact ⟨rfl, HB9.out⟩
end Go.Proofs.Ytpjaopcgoaannaa
