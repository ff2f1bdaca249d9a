/- The law XmlEmpty: the walk. -/
import Derived.Test.YtppgjkjdddanbaaDoorH7
import Derived.Test.YtppgjkjdddanbaaDoorH8
import Derived.Test.YtppgjkjdddanbaaDoorH12
namespace Go.Proofs.YtppgjkjdddanbaaDoor
open Go.RowKit
open Hb

theorem toks2_len (N : ByteArray) : (toks2 N).length = 2 := rfl

set_option maxRecDepth 100000 in
set_option maxHeartbeats 16000000 in
theorem xmlEmpty_walk (w : World) (vb : Value) (lb : List UInt8) (hb : InB w vb lb) (_ : lb.length ≤ maxLen) (a : Int) (wa : (Lit.int .u8 a).wf = true) :
    Calls Tryd.prog 4 #[vb, .int .u8 a] w fun e w' => e = .returned (.bool true) ∧ Below w.heap.size w w' := by
  have HB := Lib.hid hb
  have HLV := Lib.hid live_any
  have ha6 : a % 6 < 6 := by omega
  have HA6 := Lib.hid ha6
  have hwa : 0 ≤ a ∧ a < 256 := by
    simp [Lit.wf, IntKind.min, IntKind.max, IntKind.signed, IntKind.bits] at wa
    omega
  obtain ⟨ha0, ha1⟩ := hwa
  obtain ⟨ab, cb, rfl⟩ : ∃ a c, vb = .slice a lb.length c := by obtain ⟨a, c, h, _⟩ := hb; exact ⟨a, c, h⟩
  clear hb wa ha6
  go_enter Tryd.func4, Tryd.ntmps4
  go_wp2_with fail
  go_loopw [5, 6] (fun sv iv W => ∃ (k : Nat) (m : List UInt8), k ≤ lb.length ∧ iv = .int .i64 k ∧ sv = .string ⟨(97 :: m).toArray⟩ ∧ Hid (m.length = k ∧ k ≤ 20 ∧ ∀ c ∈ m, 97 ≤ c.toNat ∧ c.toNat < 123) ∧ Hid (Below w.heap.size w W)) (fun _ iv _ => lb.length - (intOf iv).toNat)
  case atStart => exact ⟨0, [], Nat.zero_le _, rfl, rfl, ⟨rfl, by omega, fun c hc => by cases hc⟩, Below.refl _ _⟩
  case round =>
    obtain ⟨k, m, hk, rfl, rfl, HM, HBL⟩ := hrel
    by_cases hlt : k < lb.length
    · have ck : decide ((k : Int) < (lb.length : Int)) = true := by simp; omega
      by_cases h20 : k < 20
      · have c20 : decide ((k : Int) < 20) = true := by simp; omega
        obtain ⟨a', c', hv, _, hcell⟩ := HB.out
        injection hv with hv1 hv2 hv3
        have hne : lb ≠ [] := fun e => by rw [e] at hlt; cases hlt
        obtain ⟨g, off, hag, hg, hx⟩ := hcell.resolve_left hne
        rw [← hv1] at hag
        subst hag
        have y0 : wr.cell? ⟨g, off + k, none⟩ = some (.int .u8 lb[k].toNat) := (HBL.out.cell (p := ⟨g, off + k, none⟩) hg).trans (hx k hlt)
        generalize lb[k] = x at y0
        have hx256 := x.toNat_lt
        clear hcell hx hne hv1 hv2 hv3
        obtain ⟨hml, hk1, hmm⟩ := HM.out
        have hz : (((UInt8.ofNat (97 + x.toNat % 26)).toNat : Nat) : Int) = 97 + (x.toNat : Int) % 26 := by
          rw [UInt8.toNat_ofNat_of_lt' (by simp [UInt8.size]; omega)]
          omega
        have hy : 97 ≤ (UInt8.ofNat (97 + x.toNat % 26)).toNat ∧ (UInt8.ofNat (97 + x.toNat % 26)).toNat < 123 := by omega
        generalize UInt8.ofNat (97 + x.toNat % 26) = y at hz hy
        have hcv := conv_one wr y
        rw [hz] at hcv
        have hadd := fun W => run_string_add_lists (P := Tryd.prog) W (97 :: m) [y] (by simp only [List.length_cons]; omega) (by simp)
        have HY := Lib.hid hy
        clear hz hy hml hmm
        go_wp2_with fail
        go_roundw
        case rel =>
          refine ⟨k + 1, m ++ [y], by omega, by go_num, rfl, ⟨?_, by omega, ?_⟩, HBL.out.alloc HBL.out.size _⟩
          · rw [List.length_append, HM.out.1]; rfl
          · intro c hc
            rcases List.mem_append.1 hc with hc | hc
            · exact HM.out.2.2 c hc
            · rw [List.mem_singleton.1 hc]; exact HY.out
        case measure => simp [intOf]; omega
      · have c20 : decide ((k : Int) < 20) = false := by simp; omega
        have hmlen : m.length ≤ 20 := by have := HM.out; omega
        have HNM := Lib.hid (show ∀ c ∈ (97 : UInt8) :: m, letterB c from fun c hc => by
          rcases List.mem_cons.1 hc with rfl | hc
          · unfold letterB; decide
          · exact HM.out.2.2 c hc)
        have HML := Lib.hid hmlen
        clear hmlen
        go_wp2_with fail
        go_loopw [7, 8] (fun gv jv W => ∃ (j : Nat) (gl : List UInt8), j ≤ 6 ∧ jv = .int .i64 j ∧ gv = .string ⟨gl.toArray⟩ ∧ Hid (gl.length = j ∧ ∀ c ∈ gl, gapB c) ∧ Hid (Below w.heap.size w W)) (fun _ jv _ => 6 - (intOf jv).toNat)
        case atStart => exact ⟨0, [], by omega, rfl, rfl, ⟨rfl, fun c hc => by cases hc⟩, HBL.out⟩
        case round =>
          obtain ⟨j, gl, hj, rfl, rfl, HG, HBG⟩ := hrel
          by_cases hja : (j : Int) < a % 6
          · have cj : decide ((j : Int) < a % 6) = true := by simpa using hja
            have hj5 : j < 6 := by have := HA6.out; omega
            have hgl : gl.length ≤ 6 := by have := HG.out.1; omega
            clear hja
            have hj6 : j = 0 ∨ j = 1 ∨ j = 2 ∨ j = 3 ∨ j = 4 ∨ j = 5 := by omega
            rcases hj6 with rfl | rfl | rfl | rfl | rfl | rfl
            · have cj2 : decide ((0 : Int) < a % 6) = true := cj
              have hcv := conv_one wr ((⟨#[32, 9, 10, 13]⟩ : ByteArray)[0]'(by decide))
              have hadd := fun W => run_string_add_lists (P := Tryd.prog) W gl [(⟨#[32, 9, 10, 13]⟩ : ByteArray)[0]'(by decide)] (by omega) (by simp)
              go_wp2_with fail
              go_roundw
              case rel =>
                refine ⟨0 + 1, gl ++ [(⟨#[32, 9, 10, 13]⟩ : ByteArray)[0]'(by decide)], by omega, by go_num, rfl, ⟨by rw [List.length_append, HG.out.1]; rfl, fun c hc => ?_⟩, HBG.out.alloc HBG.out.size _⟩
                rcases List.mem_append.1 hc with hc | hc
                · exact HG.out.2 c hc
                · rw [List.mem_singleton.1 hc]; exact Or.inl rfl
              case measure => simp [intOf]
            · have cj2 : decide ((1 : Int) < a % 6) = true := cj
              have hcv := conv_one wr ((⟨#[32, 9, 10, 13]⟩ : ByteArray)[1]'(by decide))
              have hadd := fun W => run_string_add_lists (P := Tryd.prog) W gl [(⟨#[32, 9, 10, 13]⟩ : ByteArray)[1]'(by decide)] (by omega) (by simp)
              go_wp2_with fail
              go_roundw
              case rel =>
                refine ⟨1 + 1, gl ++ [(⟨#[32, 9, 10, 13]⟩ : ByteArray)[1]'(by decide)], by omega, by go_num, rfl, ⟨by rw [List.length_append, HG.out.1]; rfl, fun c hc => ?_⟩, HBG.out.alloc HBG.out.size _⟩
                rcases List.mem_append.1 hc with hc | hc
                · exact HG.out.2 c hc
                · rw [List.mem_singleton.1 hc]; exact Or.inr (Or.inl rfl)
              case measure => simp [intOf]
            · have cj2 : decide ((2 : Int) < a % 6) = true := cj
              have hcv := conv_one wr ((⟨#[32, 9, 10, 13]⟩ : ByteArray)[2]'(by decide))
              have hadd := fun W => run_string_add_lists (P := Tryd.prog) W gl [(⟨#[32, 9, 10, 13]⟩ : ByteArray)[2]'(by decide)] (by omega) (by simp)
              go_wp2_with fail
              go_roundw
              case rel =>
                refine ⟨2 + 1, gl ++ [(⟨#[32, 9, 10, 13]⟩ : ByteArray)[2]'(by decide)], by omega, by go_num, rfl, ⟨by rw [List.length_append, HG.out.1]; rfl, fun c hc => ?_⟩, HBG.out.alloc HBG.out.size _⟩
                rcases List.mem_append.1 hc with hc | hc
                · exact HG.out.2 c hc
                · rw [List.mem_singleton.1 hc]; exact Or.inr (Or.inr (Or.inl rfl))
              case measure => simp [intOf]
            · have cj2 : decide ((3 : Int) < a % 6) = true := cj
              have hcv := conv_one wr ((⟨#[32, 9, 10, 13]⟩ : ByteArray)[3]'(by decide))
              have hadd := fun W => run_string_add_lists (P := Tryd.prog) W gl [(⟨#[32, 9, 10, 13]⟩ : ByteArray)[3]'(by decide)] (by omega) (by simp)
              go_wp2_with fail
              go_roundw
              case rel =>
                refine ⟨3 + 1, gl ++ [(⟨#[32, 9, 10, 13]⟩ : ByteArray)[3]'(by decide)], by omega, by go_num, rfl, ⟨by rw [List.length_append, HG.out.1]; rfl, fun c hc => ?_⟩, HBG.out.alloc HBG.out.size _⟩
                rcases List.mem_append.1 hc with hc | hc
                · exact HG.out.2 c hc
                · rw [List.mem_singleton.1 hc]; exact Or.inr (Or.inr (Or.inr rfl))
              case measure => simp [intOf]
            · have cj2 : decide ((4 : Int) < a % 6) = true := cj
              have hcv := conv_one wr ((⟨#[32, 9, 10, 13]⟩ : ByteArray)[0]'(by decide))
              have hadd := fun W => run_string_add_lists (P := Tryd.prog) W gl [(⟨#[32, 9, 10, 13]⟩ : ByteArray)[0]'(by decide)] (by omega) (by simp)
              go_wp2_with fail
              go_roundw
              case rel =>
                refine ⟨4 + 1, gl ++ [(⟨#[32, 9, 10, 13]⟩ : ByteArray)[0]'(by decide)], by omega, by go_num, rfl, ⟨by rw [List.length_append, HG.out.1]; rfl, fun c hc => ?_⟩, HBG.out.alloc HBG.out.size _⟩
                rcases List.mem_append.1 hc with hc | hc
                · exact HG.out.2 c hc
                · rw [List.mem_singleton.1 hc]; exact Or.inl rfl
              case measure => simp [intOf]
            · have cj2 : decide ((5 : Int) < a % 6) = true := cj
              have hcv := conv_one wr ((⟨#[32, 9, 10, 13]⟩ : ByteArray)[1]'(by decide))
              have hadd := fun W => run_string_add_lists (P := Tryd.prog) W gl [(⟨#[32, 9, 10, 13]⟩ : ByteArray)[1]'(by decide)] (by omega) (by simp)
              go_wp2_with fail
              go_roundw
              case rel =>
                refine ⟨5 + 1, gl ++ [(⟨#[32, 9, 10, 13]⟩ : ByteArray)[1]'(by decide)], by omega, by go_num, rfl, ⟨by rw [List.length_append, HG.out.1]; rfl, fun c hc => ?_⟩, HBG.out.alloc HBG.out.size _⟩
                rcases List.mem_append.1 hc with hc | hc
                · exact HG.out.2 c hc
                · rw [List.mem_singleton.1 hc]; exact Or.inr (Or.inl rfl)
              case measure => simp [intOf]
          · have cj : decide ((j : Int) < a % 6) = false := by simpa using hja
            have hgl : gl.length ≤ 6 := by have := HG.out.1; omega
            clear hja
            have HGG := Lib.hid (HG.out.2)
            have HGL := Lib.hid hgl
            clear hgl
            obtain ⟨S10, hS10⟩ : ∃ S : ByteArray, S = ⟨([60] ++ (97 :: m)).toArray⟩ := ⟨_, rfl⟩
            obtain ⟨S11, hS11⟩ : ∃ S : ByteArray, S = ⟨([60] ++ (97 :: m) ++ [47, 62]).toArray⟩ := ⟨_, rfl⟩
            have aS10 : ∀ W, (Op.stringOp .add ⟨([60]).toArray⟩ ⟨((97 :: m)).toArray⟩).run Tryd.prog W = .ok (.string S10) W := fun W => by
              rw [hS10]
              exact run_string_add_lists (P := Tryd.prog) W ([60]) ((97 :: m)) (by have := HML.out; have := HGL.out; simp; try omega) (by have := HML.out; have := HGL.out; simp; try omega)
            have aS11 : ∀ W, (Op.stringOp .add S10 ⟨([47, 62]).toArray⟩).run Tryd.prog W = .ok (.string S11) W := fun W => by
              rw [hS10, hS11]
              exact run_string_add_lists (P := Tryd.prog) W ([60] ++ (97 :: m)) ([47, 62]) (by have := HML.out; have := HGL.out; simp; try omega) (by have := HML.out; have := HGL.out; simp; try omega)
            have v1 : ∀ W, (convert 9 22 (.string S11)).run Tryd.prog W = .ok (.slice (some ⟨W.heap.size, 0, none⟩) S11.size (grownCap W S11.size 0 5)) (Lib.bytesWorld W 5 S11) := fun W => Lib.run_convert_string_bytes W _ _ _ S11 Tryd.underlying9 Tryd.underlying22 Tryd.underlying5
            have l1 : S11.data.toList = [60] ++ (97 :: m) ++ [47, 62] := by rw [hS11]
            obtain ⟨p1, r1⟩ := empty_one 97 m [] HNM.out (fun c hc => by cases hc) (by have := HML.out; omega) (by simp) rfl
            rw [← l1] at r1
            have z1 : S11.size ≤ 10000 := by rw [Lib.size_eq, l1]; have := HML.out; have := HGL.out; simp; omega
            clear hS10 hS11 l1
            have HR1 := Lib.hid r1
            have HZ1 := Lib.hid z1
            clear r1 z1
            have HNW1 := Lib.hid (new_any wr)
            go_wp2_with fail
            go_at_call 11
            with_reducible refine HNW1.out.mono ?_
            rintro e n1 ⟨rfl, hw⟩
            have HB1 := Lib.hid (show Below wr.heap.size wr n1 by rw [hw]; exact (Below.refl _ wr).alloc (Nat.le_refl _) _)
            have HS1 := Lib.hid (show n1.heap.size = wr.heap.size + 1 by rw [hw, World.size_alloc])
            have HFE1 := Lib.hid (feed_str wr.heap.size n1 S11 (by rw [hw]; exact Par.new wr) HZ1.out)
            rw [HR1.out] at HFE1
            clear hw
            go_wp2_with fail
            go_at_call 12
            with_reducible refine HFE1.out.mono ?_
            rintro e f1 ⟨vw1, vo1, t1, rfl, hP, hT1, hBl⟩
            obtain ⟨ta1, tc1, rfl, _⟩ := hT1.nilOr
            have HT1 := Lib.hid hT1
            have HBF1 := Lib.hid (HB1.out.trans hBl)
            clear hP hT1 hBl
            clear aS10 aS11 v1
            obtain ⟨S20, hS20⟩ : ∃ S : ByteArray, S = ⟨([60] ++ (97 :: m)).toArray⟩ := ⟨_, rfl⟩
            obtain ⟨S21, hS21⟩ : ∃ S : ByteArray, S = ⟨([60] ++ (97 :: m) ++ gl).toArray⟩ := ⟨_, rfl⟩
            obtain ⟨S22, hS22⟩ : ∃ S : ByteArray, S = ⟨([60] ++ (97 :: m) ++ gl ++ [62, 60, 47]).toArray⟩ := ⟨_, rfl⟩
            obtain ⟨S23, hS23⟩ : ∃ S : ByteArray, S = ⟨([60] ++ (97 :: m) ++ gl ++ [62, 60, 47] ++ (97 :: m)).toArray⟩ := ⟨_, rfl⟩
            obtain ⟨S24, hS24⟩ : ∃ S : ByteArray, S = ⟨([60] ++ (97 :: m) ++ gl ++ [62, 60, 47] ++ (97 :: m) ++ gl).toArray⟩ := ⟨_, rfl⟩
            obtain ⟨S25, hS25⟩ : ∃ S : ByteArray, S = ⟨([60] ++ (97 :: m) ++ gl ++ [62, 60, 47] ++ (97 :: m) ++ gl ++ [62]).toArray⟩ := ⟨_, rfl⟩
            have aS20 : ∀ W, (Op.stringOp .add ⟨([60]).toArray⟩ ⟨((97 :: m)).toArray⟩).run Tryd.prog W = .ok (.string S20) W := fun W => by
              rw [hS20]
              exact run_string_add_lists (P := Tryd.prog) W ([60]) ((97 :: m)) (by have := HML.out; have := HGL.out; simp; try omega) (by have := HML.out; have := HGL.out; simp; try omega)
            have aS21 : ∀ W, (Op.stringOp .add S20 ⟨(gl).toArray⟩).run Tryd.prog W = .ok (.string S21) W := fun W => by
              rw [hS20, hS21]
              exact run_string_add_lists (P := Tryd.prog) W ([60] ++ (97 :: m)) (gl) (by have := HML.out; have := HGL.out; simp; try omega) (by have := HML.out; have := HGL.out; simp; try omega)
            have aS22 : ∀ W, (Op.stringOp .add S21 ⟨([62, 60, 47]).toArray⟩).run Tryd.prog W = .ok (.string S22) W := fun W => by
              rw [hS21, hS22]
              exact run_string_add_lists (P := Tryd.prog) W ([60] ++ (97 :: m) ++ gl) ([62, 60, 47]) (by have := HML.out; have := HGL.out; simp; try omega) (by have := HML.out; have := HGL.out; simp; try omega)
            have aS23 : ∀ W, (Op.stringOp .add S22 ⟨((97 :: m)).toArray⟩).run Tryd.prog W = .ok (.string S23) W := fun W => by
              rw [hS22, hS23]
              exact run_string_add_lists (P := Tryd.prog) W ([60] ++ (97 :: m) ++ gl ++ [62, 60, 47]) ((97 :: m)) (by have := HML.out; have := HGL.out; simp; try omega) (by have := HML.out; have := HGL.out; simp; try omega)
            have aS24 : ∀ W, (Op.stringOp .add S23 ⟨(gl).toArray⟩).run Tryd.prog W = .ok (.string S24) W := fun W => by
              rw [hS23, hS24]
              exact run_string_add_lists (P := Tryd.prog) W ([60] ++ (97 :: m) ++ gl ++ [62, 60, 47] ++ (97 :: m)) (gl) (by have := HML.out; have := HGL.out; simp; try omega) (by have := HML.out; have := HGL.out; simp; try omega)
            have aS25 : ∀ W, (Op.stringOp .add S24 ⟨([62]).toArray⟩).run Tryd.prog W = .ok (.string S25) W := fun W => by
              rw [hS24, hS25]
              exact run_string_add_lists (P := Tryd.prog) W ([60] ++ (97 :: m) ++ gl ++ [62, 60, 47] ++ (97 :: m) ++ gl) ([62]) (by have := HML.out; have := HGL.out; simp; try omega) (by have := HML.out; have := HGL.out; simp; try omega)
            have v2 : ∀ W, (convert 9 22 (.string S25)).run Tryd.prog W = .ok (.slice (some ⟨W.heap.size, 0, none⟩) S25.size (grownCap W S25.size 0 5)) (Lib.bytesWorld W 5 S25) := fun W => Lib.run_convert_string_bytes W _ _ _ S25 Tryd.underlying9 Tryd.underlying22 Tryd.underlying5
            have l2 : S25.data.toList = [60] ++ (97 :: m) ++ gl ++ [62, 60, 47] ++ (97 :: m) ++ gl ++ [62] := by rw [hS25]
            obtain ⟨p2, r2⟩ := empty_two 97 m gl HNM.out HGG.out (by have := HML.out; omega) (by have := HGL.out; omega)
            rw [← l2] at r2
            have z2 : S25.size ≤ 10000 := by rw [Lib.size_eq, l2]; have := HML.out; have := HGL.out; simp; omega
            clear hS20 hS21 hS22 hS23 hS24 hS25 l2
            have HR2 := Lib.hid r2
            have HZ2 := Lib.hid z2
            clear r2 z2
            have HNW2 := Lib.hid (new_any f1)
            go_wp2_with fail
            go_at_call 11
            with_reducible refine HNW2.out.mono ?_
            rintro e n2 ⟨rfl, hw⟩
            have HB2 := Lib.hid (show Below f1.heap.size f1 n2 by rw [hw]; exact (Below.refl _ f1).alloc (Nat.le_refl _) _)
            have HS2 := Lib.hid (show n2.heap.size = f1.heap.size + 1 by rw [hw, World.size_alloc])
            have HFE2 := Lib.hid (feed_str f1.heap.size n2 S25 (by rw [hw]; exact Par.new f1) HZ2.out)
            rw [HR2.out] at HFE2
            clear hw
            go_wp2_with fail
            go_at_call 12
            with_reducible refine HFE2.out.mono ?_
            rintro e f2 ⟨vw2, vo2, t2, rfl, hP, hT2, hBl⟩
            obtain ⟨ta2, tc2, rfl, _⟩ := hT2.nilOr
            have HT2 := Lib.hid hT2
            have HBF2 := Lib.hid (HB2.out.trans hBl)
            clear hP hT2 hBl
            clear aS20 aS21 aS22 aS23 aS24 aS25 v2
            obtain ⟨S30, hS30⟩ : ∃ S : ByteArray, S = ⟨([60] ++ (97 :: m)).toArray⟩ := ⟨_, rfl⟩
            obtain ⟨S31, hS31⟩ : ∃ S : ByteArray, S = ⟨([60] ++ (97 :: m) ++ gl).toArray⟩ := ⟨_, rfl⟩
            obtain ⟨S32, hS32⟩ : ∃ S : ByteArray, S = ⟨([60] ++ (97 :: m) ++ gl ++ [47, 62]).toArray⟩ := ⟨_, rfl⟩
            obtain ⟨S33, hS33⟩ : ∃ S : ByteArray, S = ⟨([60] ++ (97 :: m) ++ gl ++ [47, 62] ++ gl).toArray⟩ := ⟨_, rfl⟩
            have aS30 : ∀ W, (Op.stringOp .add ⟨([60]).toArray⟩ ⟨((97 :: m)).toArray⟩).run Tryd.prog W = .ok (.string S30) W := fun W => by
              rw [hS30]
              exact run_string_add_lists (P := Tryd.prog) W ([60]) ((97 :: m)) (by have := HML.out; have := HGL.out; simp; try omega) (by have := HML.out; have := HGL.out; simp; try omega)
            have aS31 : ∀ W, (Op.stringOp .add S30 ⟨(gl).toArray⟩).run Tryd.prog W = .ok (.string S31) W := fun W => by
              rw [hS30, hS31]
              exact run_string_add_lists (P := Tryd.prog) W ([60] ++ (97 :: m)) (gl) (by have := HML.out; have := HGL.out; simp; try omega) (by have := HML.out; have := HGL.out; simp; try omega)
            have aS32 : ∀ W, (Op.stringOp .add S31 ⟨([47, 62]).toArray⟩).run Tryd.prog W = .ok (.string S32) W := fun W => by
              rw [hS31, hS32]
              exact run_string_add_lists (P := Tryd.prog) W ([60] ++ (97 :: m) ++ gl) ([47, 62]) (by have := HML.out; have := HGL.out; simp; try omega) (by have := HML.out; have := HGL.out; simp; try omega)
            have aS33 : ∀ W, (Op.stringOp .add S32 ⟨(gl).toArray⟩).run Tryd.prog W = .ok (.string S33) W := fun W => by
              rw [hS32, hS33]
              exact run_string_add_lists (P := Tryd.prog) W ([60] ++ (97 :: m) ++ gl ++ [47, 62]) (gl) (by have := HML.out; have := HGL.out; simp; try omega) (by have := HML.out; have := HGL.out; simp; try omega)
            have v3 : ∀ W, (convert 9 22 (.string S33)).run Tryd.prog W = .ok (.slice (some ⟨W.heap.size, 0, none⟩) S33.size (grownCap W S33.size 0 5)) (Lib.bytesWorld W 5 S33) := fun W => Lib.run_convert_string_bytes W _ _ _ S33 Tryd.underlying9 Tryd.underlying22 Tryd.underlying5
            have l3 : S33.data.toList = [60] ++ (97 :: m) ++ gl ++ [47, 62] ++ gl := by rw [hS33]
            obtain ⟨p3, r3⟩ := empty_three 97 m gl HNM.out HGG.out (by have := HML.out; omega) (by have := HGL.out; omega)
            rw [← l3] at r3
            have z3 : S33.size ≤ 10000 := by rw [Lib.size_eq, l3]; have := HML.out; have := HGL.out; simp; omega
            clear hS30 hS31 hS32 hS33 l3
            have HR3 := Lib.hid r3
            have HZ3 := Lib.hid z3
            clear r3 z3
            have HNW3 := Lib.hid (new_any f2)
            go_wp2_with fail
            go_at_call 11
            with_reducible refine HNW3.out.mono ?_
            rintro e n3 ⟨rfl, hw⟩
            have HB3 := Lib.hid (show Below f2.heap.size f2 n3 by rw [hw]; exact (Below.refl _ f2).alloc (Nat.le_refl _) _)
            have HS3 := Lib.hid (show n3.heap.size = f2.heap.size + 1 by rw [hw, World.size_alloc])
            have HFE3 := Lib.hid (feed_str f2.heap.size n3 S33 (by rw [hw]; exact Par.new f2) HZ3.out)
            rw [HR3.out] at HFE3
            clear hw
            go_wp2_with fail
            go_at_call 12
            with_reducible refine HFE3.out.mono ?_
            rintro e f3 ⟨vw3, vo3, t3, rfl, hP, hT3, hBl⟩
            obtain ⟨ta3, tc3, rfl, _⟩ := hT3.nilOr
            have HT3 := Lib.hid hT3
            have HBF3 := Lib.hid (HB3.out.trans hBl)
            clear hP hT3 hBl
            clear aS30 aS31 aS32 aS33 v3
            have q0 : (((0 : Nat) : Int) == 0) = true := rfl
            have q2 : (toks2 ⟨(97 :: m).toArray⟩).length = 2 := rfl
            go_wp2_with fail
            go_at_call 14
            with_reducible refine (HLV.out _).mono ?_
            rintro e g4 ⟨rfl, hB4⟩
            have hB14 := (HBF2.out.trans (HBF3.out.mono HBF2.out.size)).trans (hB4.mono (Nat.le_trans HBF2.out.size HBF3.out.size))
            have hB24 := HBF3.out.trans (hB4.mono HBF3.out.size)
            have hat : ∀ t ∈ toks2 ⟨(97 :: m).toArray⟩, t.attrs.length ≤ 1000000000 := fun t ht => by
              unfold toks2 at ht
              simp only [List.mem_cons, List.not_mem_nil, or_false] at ht
              rcases ht with rfl | rfl <;> exact Nat.zero_le _
            have hT14 : Told2 g4 _ (.slice ta1 2 tc1) (toks2 ⟨(97 :: m).toArray⟩) := HT1.out.below hB14
            have hT24 : Told2 g4 _ (.slice ta2 2 tc2) (toks2 ⟨(97 :: m).toArray⟩) := HT2.out.below hB24
            have hT34 : Told2 g4 _ (.slice ta3 2 tc3) (toks2 ⟨(97 :: m).toArray⟩) := HT3.out.below hB4
            have HSA := Lib.hid (same_any _ _ _ _ _ g4 hT14 hT24 (by rw [toks2_len]; decide) hat)
            have HSB := Lib.hid (fun W (hb : Below g4.heap.size g4 W) => same_any _ _ _ _ _ W (hT14.below hb) (hT34.below hb) (by rw [toks2_len]; decide) hat)
            have HBZ := Lib.hid ((HBG.out.trans (HBF1.out.mono HBG.out.size)).trans (hB14.mono (HBG.out.trans (HBF1.out.mono HBG.out.size)).size))
            clear hB14 hB24 hat hT14 hT24 hT34
            go_wp2_with fail
            go_at_call 16
            with_reducible refine HSA.out.mono ?_
            rintro e g5 ⟨rfl, hB5⟩
            go_wp2_with fail
            go_at_call 16
            with_reducible refine (HSB.out _ hB5).mono ?_
            rintro e g6 ⟨rfl, hB6⟩
            go_wp2_with fail
            go_returns
            have hB56 := hB5.trans (hB6.mono hB5.size)
            exact ⟨rfl, HBZ.out.trans (hB56.mono HBZ.out.size)⟩
    · have ck : decide ((k : Int) < (lb.length : Int)) = false := by simp; omega
      have hmlen : m.length ≤ 20 := by have := HM.out; omega
      have HNM := Lib.hid (show ∀ c ∈ (97 : UInt8) :: m, letterB c from fun c hc => by
        rcases List.mem_cons.1 hc with rfl | hc
        · unfold letterB; decide
        · exact HM.out.2.2 c hc)
      have HML := Lib.hid hmlen
      clear hmlen
      go_wp2_with fail
      go_loopw [7, 8] (fun gv jv W => ∃ (j : Nat) (gl : List UInt8), j ≤ 6 ∧ jv = .int .i64 j ∧ gv = .string ⟨gl.toArray⟩ ∧ Hid (gl.length = j ∧ ∀ c ∈ gl, gapB c) ∧ Hid (Below w.heap.size w W)) (fun _ jv _ => 6 - (intOf jv).toNat)
      case atStart => exact ⟨0, [], by omega, rfl, rfl, ⟨rfl, fun c hc => by cases hc⟩, HBL.out⟩
      case round =>
        obtain ⟨j, gl, hj, rfl, rfl, HG, HBG⟩ := hrel
        by_cases hja : (j : Int) < a % 6
        · have cj : decide ((j : Int) < a % 6) = true := by simpa using hja
          have hj5 : j < 6 := by have := HA6.out; omega
          have hgl : gl.length ≤ 6 := by have := HG.out.1; omega
          clear hja
          have hj6 : j = 0 ∨ j = 1 ∨ j = 2 ∨ j = 3 ∨ j = 4 ∨ j = 5 := by omega
          rcases hj6 with rfl | rfl | rfl | rfl | rfl | rfl
          · have cj2 : decide ((0 : Int) < a % 6) = true := cj
            have hcv := conv_one wr ((⟨#[32, 9, 10, 13]⟩ : ByteArray)[0]'(by decide))
            have hadd := fun W => run_string_add_lists (P := Tryd.prog) W gl [(⟨#[32, 9, 10, 13]⟩ : ByteArray)[0]'(by decide)] (by omega) (by simp)
            go_wp2_with fail
            go_roundw
            case rel =>
              refine ⟨0 + 1, gl ++ [(⟨#[32, 9, 10, 13]⟩ : ByteArray)[0]'(by decide)], by omega, by go_num, rfl, ⟨by rw [List.length_append, HG.out.1]; rfl, fun c hc => ?_⟩, HBG.out.alloc HBG.out.size _⟩
              rcases List.mem_append.1 hc with hc | hc
              · exact HG.out.2 c hc
              · rw [List.mem_singleton.1 hc]; exact Or.inl rfl
            case measure => simp [intOf]
          · have cj2 : decide ((1 : Int) < a % 6) = true := cj
            have hcv := conv_one wr ((⟨#[32, 9, 10, 13]⟩ : ByteArray)[1]'(by decide))
            have hadd := fun W => run_string_add_lists (P := Tryd.prog) W gl [(⟨#[32, 9, 10, 13]⟩ : ByteArray)[1]'(by decide)] (by omega) (by simp)
            go_wp2_with fail
            go_roundw
            case rel =>
              refine ⟨1 + 1, gl ++ [(⟨#[32, 9, 10, 13]⟩ : ByteArray)[1]'(by decide)], by omega, by go_num, rfl, ⟨by rw [List.length_append, HG.out.1]; rfl, fun c hc => ?_⟩, HBG.out.alloc HBG.out.size _⟩
              rcases List.mem_append.1 hc with hc | hc
              · exact HG.out.2 c hc
              · rw [List.mem_singleton.1 hc]; exact Or.inr (Or.inl rfl)
            case measure => simp [intOf]
          · have cj2 : decide ((2 : Int) < a % 6) = true := cj
            have hcv := conv_one wr ((⟨#[32, 9, 10, 13]⟩ : ByteArray)[2]'(by decide))
            have hadd := fun W => run_string_add_lists (P := Tryd.prog) W gl [(⟨#[32, 9, 10, 13]⟩ : ByteArray)[2]'(by decide)] (by omega) (by simp)
            go_wp2_with fail
            go_roundw
            case rel =>
              refine ⟨2 + 1, gl ++ [(⟨#[32, 9, 10, 13]⟩ : ByteArray)[2]'(by decide)], by omega, by go_num, rfl, ⟨by rw [List.length_append, HG.out.1]; rfl, fun c hc => ?_⟩, HBG.out.alloc HBG.out.size _⟩
              rcases List.mem_append.1 hc with hc | hc
              · exact HG.out.2 c hc
              · rw [List.mem_singleton.1 hc]; exact Or.inr (Or.inr (Or.inl rfl))
            case measure => simp [intOf]
          · have cj2 : decide ((3 : Int) < a % 6) = true := cj
            have hcv := conv_one wr ((⟨#[32, 9, 10, 13]⟩ : ByteArray)[3]'(by decide))
            have hadd := fun W => run_string_add_lists (P := Tryd.prog) W gl [(⟨#[32, 9, 10, 13]⟩ : ByteArray)[3]'(by decide)] (by omega) (by simp)
            go_wp2_with fail
            go_roundw
            case rel =>
              refine ⟨3 + 1, gl ++ [(⟨#[32, 9, 10, 13]⟩ : ByteArray)[3]'(by decide)], by omega, by go_num, rfl, ⟨by rw [List.length_append, HG.out.1]; rfl, fun c hc => ?_⟩, HBG.out.alloc HBG.out.size _⟩
              rcases List.mem_append.1 hc with hc | hc
              · exact HG.out.2 c hc
              · rw [List.mem_singleton.1 hc]; exact Or.inr (Or.inr (Or.inr rfl))
            case measure => simp [intOf]
          · have cj2 : decide ((4 : Int) < a % 6) = true := cj
            have hcv := conv_one wr ((⟨#[32, 9, 10, 13]⟩ : ByteArray)[0]'(by decide))
            have hadd := fun W => run_string_add_lists (P := Tryd.prog) W gl [(⟨#[32, 9, 10, 13]⟩ : ByteArray)[0]'(by decide)] (by omega) (by simp)
            go_wp2_with fail
            go_roundw
            case rel =>
              refine ⟨4 + 1, gl ++ [(⟨#[32, 9, 10, 13]⟩ : ByteArray)[0]'(by decide)], by omega, by go_num, rfl, ⟨by rw [List.length_append, HG.out.1]; rfl, fun c hc => ?_⟩, HBG.out.alloc HBG.out.size _⟩
              rcases List.mem_append.1 hc with hc | hc
              · exact HG.out.2 c hc
              · rw [List.mem_singleton.1 hc]; exact Or.inl rfl
            case measure => simp [intOf]
          · have cj2 : decide ((5 : Int) < a % 6) = true := cj
            have hcv := conv_one wr ((⟨#[32, 9, 10, 13]⟩ : ByteArray)[1]'(by decide))
            have hadd := fun W => run_string_add_lists (P := Tryd.prog) W gl [(⟨#[32, 9, 10, 13]⟩ : ByteArray)[1]'(by decide)] (by omega) (by simp)
            go_wp2_with fail
            go_roundw
            case rel =>
              refine ⟨5 + 1, gl ++ [(⟨#[32, 9, 10, 13]⟩ : ByteArray)[1]'(by decide)], by omega, by go_num, rfl, ⟨by rw [List.length_append, HG.out.1]; rfl, fun c hc => ?_⟩, HBG.out.alloc HBG.out.size _⟩
              rcases List.mem_append.1 hc with hc | hc
              · exact HG.out.2 c hc
              · rw [List.mem_singleton.1 hc]; exact Or.inr (Or.inl rfl)
            case measure => simp [intOf]
        · have cj : decide ((j : Int) < a % 6) = false := by simpa using hja
          have hgl : gl.length ≤ 6 := by have := HG.out.1; omega
          clear hja
          have HGG := Lib.hid (HG.out.2)
          have HGL := Lib.hid hgl
          clear hgl
          obtain ⟨S10, hS10⟩ : ∃ S : ByteArray, S = ⟨([60] ++ (97 :: m)).toArray⟩ := ⟨_, rfl⟩
          obtain ⟨S11, hS11⟩ : ∃ S : ByteArray, S = ⟨([60] ++ (97 :: m) ++ [47, 62]).toArray⟩ := ⟨_, rfl⟩
          have aS10 : ∀ W, (Op.stringOp .add ⟨([60]).toArray⟩ ⟨((97 :: m)).toArray⟩).run Tryd.prog W = .ok (.string S10) W := fun W => by
            rw [hS10]
            exact run_string_add_lists (P := Tryd.prog) W ([60]) ((97 :: m)) (by have := HML.out; have := HGL.out; simp; try omega) (by have := HML.out; have := HGL.out; simp; try omega)
          have aS11 : ∀ W, (Op.stringOp .add S10 ⟨([47, 62]).toArray⟩).run Tryd.prog W = .ok (.string S11) W := fun W => by
            rw [hS10, hS11]
            exact run_string_add_lists (P := Tryd.prog) W ([60] ++ (97 :: m)) ([47, 62]) (by have := HML.out; have := HGL.out; simp; try omega) (by have := HML.out; have := HGL.out; simp; try omega)
          have v1 : ∀ W, (convert 9 22 (.string S11)).run Tryd.prog W = .ok (.slice (some ⟨W.heap.size, 0, none⟩) S11.size (grownCap W S11.size 0 5)) (Lib.bytesWorld W 5 S11) := fun W => Lib.run_convert_string_bytes W _ _ _ S11 Tryd.underlying9 Tryd.underlying22 Tryd.underlying5
          have l1 : S11.data.toList = [60] ++ (97 :: m) ++ [47, 62] := by rw [hS11]
          obtain ⟨p1, r1⟩ := empty_one 97 m [] HNM.out (fun c hc => by cases hc) (by have := HML.out; omega) (by simp) rfl
          rw [← l1] at r1
          have z1 : S11.size ≤ 10000 := by rw [Lib.size_eq, l1]; have := HML.out; have := HGL.out; simp; omega
          clear hS10 hS11 l1
          have HR1 := Lib.hid r1
          have HZ1 := Lib.hid z1
          clear r1 z1
          have HNW1 := Lib.hid (new_any wr)
          go_wp2_with fail
          go_at_call 11
          with_reducible refine HNW1.out.mono ?_
          rintro e n1 ⟨rfl, hw⟩
          have HB1 := Lib.hid (show Below wr.heap.size wr n1 by rw [hw]; exact (Below.refl _ wr).alloc (Nat.le_refl _) _)
          have HS1 := Lib.hid (show n1.heap.size = wr.heap.size + 1 by rw [hw, World.size_alloc])
          have HFE1 := Lib.hid (feed_str wr.heap.size n1 S11 (by rw [hw]; exact Par.new wr) HZ1.out)
          rw [HR1.out] at HFE1
          clear hw
          go_wp2_with fail
          go_at_call 12
          with_reducible refine HFE1.out.mono ?_
          rintro e f1 ⟨vw1, vo1, t1, rfl, hP, hT1, hBl⟩
          obtain ⟨ta1, tc1, rfl, _⟩ := hT1.nilOr
          have HT1 := Lib.hid hT1
          have HBF1 := Lib.hid (HB1.out.trans hBl)
          clear hP hT1 hBl
          clear aS10 aS11 v1
          obtain ⟨S20, hS20⟩ : ∃ S : ByteArray, S = ⟨([60] ++ (97 :: m)).toArray⟩ := ⟨_, rfl⟩
          obtain ⟨S21, hS21⟩ : ∃ S : ByteArray, S = ⟨([60] ++ (97 :: m) ++ gl).toArray⟩ := ⟨_, rfl⟩
          obtain ⟨S22, hS22⟩ : ∃ S : ByteArray, S = ⟨([60] ++ (97 :: m) ++ gl ++ [62, 60, 47]).toArray⟩ := ⟨_, rfl⟩
          obtain ⟨S23, hS23⟩ : ∃ S : ByteArray, S = ⟨([60] ++ (97 :: m) ++ gl ++ [62, 60, 47] ++ (97 :: m)).toArray⟩ := ⟨_, rfl⟩
          obtain ⟨S24, hS24⟩ : ∃ S : ByteArray, S = ⟨([60] ++ (97 :: m) ++ gl ++ [62, 60, 47] ++ (97 :: m) ++ gl).toArray⟩ := ⟨_, rfl⟩
          obtain ⟨S25, hS25⟩ : ∃ S : ByteArray, S = ⟨([60] ++ (97 :: m) ++ gl ++ [62, 60, 47] ++ (97 :: m) ++ gl ++ [62]).toArray⟩ := ⟨_, rfl⟩
          have aS20 : ∀ W, (Op.stringOp .add ⟨([60]).toArray⟩ ⟨((97 :: m)).toArray⟩).run Tryd.prog W = .ok (.string S20) W := fun W => by
            rw [hS20]
            exact run_string_add_lists (P := Tryd.prog) W ([60]) ((97 :: m)) (by have := HML.out; have := HGL.out; simp; try omega) (by have := HML.out; have := HGL.out; simp; try omega)
          have aS21 : ∀ W, (Op.stringOp .add S20 ⟨(gl).toArray⟩).run Tryd.prog W = .ok (.string S21) W := fun W => by
            rw [hS20, hS21]
            exact run_string_add_lists (P := Tryd.prog) W ([60] ++ (97 :: m)) (gl) (by have := HML.out; have := HGL.out; simp; try omega) (by have := HML.out; have := HGL.out; simp; try omega)
          have aS22 : ∀ W, (Op.stringOp .add S21 ⟨([62, 60, 47]).toArray⟩).run Tryd.prog W = .ok (.string S22) W := fun W => by
            rw [hS21, hS22]
            exact run_string_add_lists (P := Tryd.prog) W ([60] ++ (97 :: m) ++ gl) ([62, 60, 47]) (by have := HML.out; have := HGL.out; simp; try omega) (by have := HML.out; have := HGL.out; simp; try omega)
          have aS23 : ∀ W, (Op.stringOp .add S22 ⟨((97 :: m)).toArray⟩).run Tryd.prog W = .ok (.string S23) W := fun W => by
            rw [hS22, hS23]
            exact run_string_add_lists (P := Tryd.prog) W ([60] ++ (97 :: m) ++ gl ++ [62, 60, 47]) ((97 :: m)) (by have := HML.out; have := HGL.out; simp; try omega) (by have := HML.out; have := HGL.out; simp; try omega)
          have aS24 : ∀ W, (Op.stringOp .add S23 ⟨(gl).toArray⟩).run Tryd.prog W = .ok (.string S24) W := fun W => by
            rw [hS23, hS24]
            exact run_string_add_lists (P := Tryd.prog) W ([60] ++ (97 :: m) ++ gl ++ [62, 60, 47] ++ (97 :: m)) (gl) (by have := HML.out; have := HGL.out; simp; try omega) (by have := HML.out; have := HGL.out; simp; try omega)
          have aS25 : ∀ W, (Op.stringOp .add S24 ⟨([62]).toArray⟩).run Tryd.prog W = .ok (.string S25) W := fun W => by
            rw [hS24, hS25]
            exact run_string_add_lists (P := Tryd.prog) W ([60] ++ (97 :: m) ++ gl ++ [62, 60, 47] ++ (97 :: m) ++ gl) ([62]) (by have := HML.out; have := HGL.out; simp; try omega) (by have := HML.out; have := HGL.out; simp; try omega)
          have v2 : ∀ W, (convert 9 22 (.string S25)).run Tryd.prog W = .ok (.slice (some ⟨W.heap.size, 0, none⟩) S25.size (grownCap W S25.size 0 5)) (Lib.bytesWorld W 5 S25) := fun W => Lib.run_convert_string_bytes W _ _ _ S25 Tryd.underlying9 Tryd.underlying22 Tryd.underlying5
          have l2 : S25.data.toList = [60] ++ (97 :: m) ++ gl ++ [62, 60, 47] ++ (97 :: m) ++ gl ++ [62] := by rw [hS25]
          obtain ⟨p2, r2⟩ := empty_two 97 m gl HNM.out HGG.out (by have := HML.out; omega) (by have := HGL.out; omega)
          rw [← l2] at r2
          have z2 : S25.size ≤ 10000 := by rw [Lib.size_eq, l2]; have := HML.out; have := HGL.out; simp; omega
          clear hS20 hS21 hS22 hS23 hS24 hS25 l2
          have HR2 := Lib.hid r2
          have HZ2 := Lib.hid z2
          clear r2 z2
          have HNW2 := Lib.hid (new_any f1)
          go_wp2_with fail
          go_at_call 11
          with_reducible refine HNW2.out.mono ?_
          rintro e n2 ⟨rfl, hw⟩
          have HB2 := Lib.hid (show Below f1.heap.size f1 n2 by rw [hw]; exact (Below.refl _ f1).alloc (Nat.le_refl _) _)
          have HS2 := Lib.hid (show n2.heap.size = f1.heap.size + 1 by rw [hw, World.size_alloc])
          have HFE2 := Lib.hid (feed_str f1.heap.size n2 S25 (by rw [hw]; exact Par.new f1) HZ2.out)
          rw [HR2.out] at HFE2
          clear hw
          go_wp2_with fail
          go_at_call 12
          with_reducible refine HFE2.out.mono ?_
          rintro e f2 ⟨vw2, vo2, t2, rfl, hP, hT2, hBl⟩
          obtain ⟨ta2, tc2, rfl, _⟩ := hT2.nilOr
          have HT2 := Lib.hid hT2
          have HBF2 := Lib.hid (HB2.out.trans hBl)
          clear hP hT2 hBl
          clear aS20 aS21 aS22 aS23 aS24 aS25 v2
          obtain ⟨S30, hS30⟩ : ∃ S : ByteArray, S = ⟨([60] ++ (97 :: m)).toArray⟩ := ⟨_, rfl⟩
          obtain ⟨S31, hS31⟩ : ∃ S : ByteArray, S = ⟨([60] ++ (97 :: m) ++ gl).toArray⟩ := ⟨_, rfl⟩
          obtain ⟨S32, hS32⟩ : ∃ S : ByteArray, S = ⟨([60] ++ (97 :: m) ++ gl ++ [47, 62]).toArray⟩ := ⟨_, rfl⟩
          obtain ⟨S33, hS33⟩ : ∃ S : ByteArray, S = ⟨([60] ++ (97 :: m) ++ gl ++ [47, 62] ++ gl).toArray⟩ := ⟨_, rfl⟩
          have aS30 : ∀ W, (Op.stringOp .add ⟨([60]).toArray⟩ ⟨((97 :: m)).toArray⟩).run Tryd.prog W = .ok (.string S30) W := fun W => by
            rw [hS30]
            exact run_string_add_lists (P := Tryd.prog) W ([60]) ((97 :: m)) (by have := HML.out; have := HGL.out; simp; try omega) (by have := HML.out; have := HGL.out; simp; try omega)
          have aS31 : ∀ W, (Op.stringOp .add S30 ⟨(gl).toArray⟩).run Tryd.prog W = .ok (.string S31) W := fun W => by
            rw [hS30, hS31]
            exact run_string_add_lists (P := Tryd.prog) W ([60] ++ (97 :: m)) (gl) (by have := HML.out; have := HGL.out; simp; try omega) (by have := HML.out; have := HGL.out; simp; try omega)
          have aS32 : ∀ W, (Op.stringOp .add S31 ⟨([47, 62]).toArray⟩).run Tryd.prog W = .ok (.string S32) W := fun W => by
            rw [hS31, hS32]
            exact run_string_add_lists (P := Tryd.prog) W ([60] ++ (97 :: m) ++ gl) ([47, 62]) (by have := HML.out; have := HGL.out; simp; try omega) (by have := HML.out; have := HGL.out; simp; try omega)
          have aS33 : ∀ W, (Op.stringOp .add S32 ⟨(gl).toArray⟩).run Tryd.prog W = .ok (.string S33) W := fun W => by
            rw [hS32, hS33]
            exact run_string_add_lists (P := Tryd.prog) W ([60] ++ (97 :: m) ++ gl ++ [47, 62]) (gl) (by have := HML.out; have := HGL.out; simp; try omega) (by have := HML.out; have := HGL.out; simp; try omega)
          have v3 : ∀ W, (convert 9 22 (.string S33)).run Tryd.prog W = .ok (.slice (some ⟨W.heap.size, 0, none⟩) S33.size (grownCap W S33.size 0 5)) (Lib.bytesWorld W 5 S33) := fun W => Lib.run_convert_string_bytes W _ _ _ S33 Tryd.underlying9 Tryd.underlying22 Tryd.underlying5
          have l3 : S33.data.toList = [60] ++ (97 :: m) ++ gl ++ [47, 62] ++ gl := by rw [hS33]
          obtain ⟨p3, r3⟩ := empty_three 97 m gl HNM.out HGG.out (by have := HML.out; omega) (by have := HGL.out; omega)
          rw [← l3] at r3
          have z3 : S33.size ≤ 10000 := by rw [Lib.size_eq, l3]; have := HML.out; have := HGL.out; simp; omega
          clear hS30 hS31 hS32 hS33 l3
          have HR3 := Lib.hid r3
          have HZ3 := Lib.hid z3
          clear r3 z3
          have HNW3 := Lib.hid (new_any f2)
          go_wp2_with fail
          go_at_call 11
          with_reducible refine HNW3.out.mono ?_
          rintro e n3 ⟨rfl, hw⟩
          have HB3 := Lib.hid (show Below f2.heap.size f2 n3 by rw [hw]; exact (Below.refl _ f2).alloc (Nat.le_refl _) _)
          have HS3 := Lib.hid (show n3.heap.size = f2.heap.size + 1 by rw [hw, World.size_alloc])
          have HFE3 := Lib.hid (feed_str f2.heap.size n3 S33 (by rw [hw]; exact Par.new f2) HZ3.out)
          rw [HR3.out] at HFE3
          clear hw
          go_wp2_with fail
          go_at_call 12
          with_reducible refine HFE3.out.mono ?_
          rintro e f3 ⟨vw3, vo3, t3, rfl, hP, hT3, hBl⟩
          obtain ⟨ta3, tc3, rfl, _⟩ := hT3.nilOr
          have HT3 := Lib.hid hT3
          have HBF3 := Lib.hid (HB3.out.trans hBl)
          clear hP hT3 hBl
          clear aS30 aS31 aS32 aS33 v3
          have q0 : (((0 : Nat) : Int) == 0) = true := rfl
          have q2 : (toks2 ⟨(97 :: m).toArray⟩).length = 2 := rfl
          go_wp2_with fail
          go_at_call 14
          with_reducible refine (HLV.out _).mono ?_
          rintro e g4 ⟨rfl, hB4⟩
          have hB14 := (HBF2.out.trans (HBF3.out.mono HBF2.out.size)).trans (hB4.mono (Nat.le_trans HBF2.out.size HBF3.out.size))
          have hB24 := HBF3.out.trans (hB4.mono HBF3.out.size)
          have hat : ∀ t ∈ toks2 ⟨(97 :: m).toArray⟩, t.attrs.length ≤ 1000000000 := fun t ht => by
            unfold toks2 at ht
            simp only [List.mem_cons, List.not_mem_nil, or_false] at ht
            rcases ht with rfl | rfl <;> exact Nat.zero_le _
          have hT14 : Told2 g4 _ (.slice ta1 2 tc1) (toks2 ⟨(97 :: m).toArray⟩) := HT1.out.below hB14
          have hT24 : Told2 g4 _ (.slice ta2 2 tc2) (toks2 ⟨(97 :: m).toArray⟩) := HT2.out.below hB24
          have hT34 : Told2 g4 _ (.slice ta3 2 tc3) (toks2 ⟨(97 :: m).toArray⟩) := HT3.out.below hB4
          have HSA := Lib.hid (same_any _ _ _ _ _ g4 hT14 hT24 (by rw [toks2_len]; decide) hat)
          have HSB := Lib.hid (fun W (hb : Below g4.heap.size g4 W) => same_any _ _ _ _ _ W (hT14.below hb) (hT34.below hb) (by rw [toks2_len]; decide) hat)
          have HBZ := Lib.hid ((HBG.out.trans (HBF1.out.mono HBG.out.size)).trans (hB14.mono (HBG.out.trans (HBF1.out.mono HBG.out.size)).size))
          clear hB14 hB24 hat hT14 hT24 hT34
          go_wp2_with fail
          go_at_call 16
          with_reducible refine HSA.out.mono ?_
          rintro e g5 ⟨rfl, hB5⟩
          go_wp2_with fail
          go_at_call 16
          with_reducible refine (HSB.out _ hB5).mono ?_
          rintro e g6 ⟨rfl, hB6⟩
          go_wp2_with fail
          go_returns
          have hB56 := hB5.trans (hB6.mono hB5.size)
          exact ⟨rfl, HBZ.out.trans (hB56.mono HBZ.out.size)⟩
end Go.Proofs.YtppgjkjdddanbaaDoor
