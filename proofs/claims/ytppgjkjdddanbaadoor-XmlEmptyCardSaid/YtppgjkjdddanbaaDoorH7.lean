/- The law XmlBarred: the walk. -/
import Derived.Test.YtppgjkjdddanbaaDoorH6
namespace Go.Proofs.YtppgjkjdddanbaaDoor
open Go.RowKit
open Hb

theorem conv_one (W : World) (c : UInt8) : (convert 22 9 (.slice (some ⟨W.heap.size, 0, none⟩) 1 1)).run Tryd.prog (W.alloc (.cells #[.int .u8 c.toNat] 5)) = .ok (.string ⟨#[c]⟩) (W.alloc (.cells #[.int .u8 c.toNat] 5)) := by
  have hO : OwnB (W.alloc (.cells #[.int .u8 c.toNat] 5)) 0 5 (.slice (some ⟨W.heap.size, 0, none⟩) 1 1) [c] := by
    refine ⟨rfl, .inr ⟨W.heap.size, 1, #[.int .u8 c.toNat], rfl, Nat.zero_le _, (MapKept.heap_alloc W _).1, Nat.le_refl _, by decide, rfl, rfl⟩⟩
  exact run_string (P := Tryd.prog) Tryd.underlying22 Tryd.underlying5 Tryd.underlying9 hO

theorem bytes_below (W : World) (S : ByteArray) : Below W.heap.size W (Lib.bytesWorld W 5 S) := by
  refine ⟨?_, ?_, ?_, by rw [Lib.bytesWorld_size]; omega, fun k hk => Lib.bytesWorld_at_old W _ S k hk⟩
  · unfold Lib.bytesWorld World.freeze; split <;> rfl
  · unfold Lib.bytesWorld World.freeze; split <;> rfl
  · unfold Lib.bytesWorld World.freeze; split <;> rfl

/-- a Feed of a new parser with a string's bytes. -/
theorem feed_str (A : Nat) (w1 : World) (S : ByteArray) (hP : Par w1 A A ps0 (.slice none 0 0) (.slice none 0 0)) (hS : S.size ≤ 10000) :
    Calls Tryd.prog 12 #[pt A, .slice (some ⟨w1.heap.size, 0, none⟩) S.size (grownCap w1 S.size 0 5)] (Lib.bytesWorld w1 5 S) fun o w' => ∃ vw' vo' vout, o = .returned (.tuple #[vout, .int .i64 (runP ps0 S.data.toList).2.2]) ∧ Par w' (w1.heap.size + 1) A (runP ps0 S.data.toList).1 vw' vo' ∧ Told2 w' (w1.heap.size + 1) vout (runP ps0 S.data.toList).2.1 ∧ Below A w1 w' := by
  have hb := bytes_below w1 S
  have hsz : (Lib.bytesWorld w1 5 S).heap.size = w1.heap.size + 1 := Lib.bytesWorld_size w1 _ S
  have hp := hP.below hb
  have hAl := hP.box.lt
  have hlen : S.data.toList.length = S.size := (Lib.size_eq S).symm
  have hB : BytesAt (Lib.bytesWorld w1 5 S) (w1.heap.size + 1) A (.slice (some ⟨w1.heap.size, 0, none⟩) S.size (grownCap w1 S.size 0 5)) S.data.toList := by
    refine ⟨_, _, by rw [hlen], .inr ⟨w1.heap.size, 0, rfl, by omega, by omega, fun i hi => ?_⟩⟩
    have := Lib.bytesWorld_cell w1 5 S i (by omega)
    rw [Nat.zero_add, this]
    simp only [List.getD]
    rw [List.getElem?_eq_getElem hi]
    rfl
  refine (feed_told (w1.heap.size + 1) (w1.heap.size + 1) A ps0 S.data.toList _ _ _ _ ⟨hp.box, OwnB.nil _ _ _, hp.opn⟩ (.inl rfl) fit0 rfl hB (by omega) (by omega)).mono ?_
  rintro o w' ⟨vw', vo', vout, h1, h2, h3, h4⟩
  rw [hsz] at h3
  exact ⟨vw', vo', vout, h1, h2, h3, (hb.mono (Nat.le_of_lt hAl)).trans (h4.belowOf (Nat.le_refl _) (by omega) (by omega))⟩

set_option maxRecDepth 100000 in
set_option maxHeartbeats 8000000 in
theorem xmlBarred_walk (w : World) (a : Int) (_ : (Lit.int .u8 a).wf = true) (vb : Value) (lb : List UInt8) (hb : InB w vb lb) (hlb : lb.length ≤ maxLen) :
    Calls Tryd.prog 8 #[.int .u8 a, vb] w fun e w' => e = .returned (.bool true) ∧ Below w.heap.size w w' := by
  have HB := Lib.hid hb
  have HLB := Lib.hid hlb
  have HLV := Lib.hid live_any
  obtain ⟨ab, cb, rfl⟩ : ∃ a c, vb = .slice a lb.length c := by obtain ⟨a, c, h, _⟩ := hb; exact ⟨a, c, h⟩
  clear hb hlb
  cases hm : (a.tmod 2 == 1) with
  | true =>
    have hsv : ∀ m : List UInt8, (⟨(60 :: 63 :: m).toArray⟩ : ByteArray).size = m.length + 2 := fun m => by rw [Lib.size_eq]; simp
    have HSV := Lib.hid hsv
    clear hsv
    go_enter Tryd.func8, Tryd.ntmps8
    go_wp2_with fail
    go_loopw [5, 6] (fun sv iv W => ∃ (k : Nat) (m : List UInt8), k ≤ lb.length ∧ iv = .int .i64 k ∧ sv = .string ⟨(60 :: 63 :: m).toArray⟩ ∧ Hid (m.length = k ∧ k ≤ 100 ∧ ∀ c ∈ m, 97 ≤ c.toNat ∧ c.toNat < 123) ∧ Hid (Below w.heap.size w W)) (fun _ iv _ => lb.length - (intOf iv).toNat)
    case atStart => exact ⟨0, [], Nat.zero_le _, rfl, rfl, ⟨rfl, by omega, fun c hc => by cases hc⟩, Below.refl _ _⟩
    case round =>
      obtain ⟨k, m, hk, rfl, rfl, HM, HBL⟩ := hrel
      by_cases hlt : k < lb.length
      · have ck : decide ((k : Int) < (lb.length : Int)) = true := by simp; omega
        by_cases h100 : k < 100
        · have c100 : decide ((k : Int) < 100) = true := by simp; omega
          obtain ⟨a', c', hv, _, hcell⟩ := HB.out
          injection hv with hv1 hv2 hv3
          have hne : lb ≠ [] := fun e => by rw [e] at hlt; cases hlt
          obtain ⟨g, off, ha, hg, hx⟩ := hcell.resolve_left hne
          rw [← hv1] at ha
          subst ha
          have y0 : wr.cell? ⟨g, off + k, none⟩ = some (.int .u8 lb[k].toNat) := (HBL.out.cell (p := ⟨g, off + k, none⟩) hg).trans (hx k hlt)
          generalize lb[k] = x at y0
          have hx256 := x.toNat_lt
          clear hcell hx hne hv1 hv2 hv3
          obtain ⟨hml, hk1, hmm⟩ := HM.out
          have hz : (((UInt8.ofNat (97 + x.toNat % 26)).toNat : Nat) : Int) = 97 + (x.toNat : Int) % 26 := by
            rw [UInt8.toNat_ofNat_of_lt' (by simp [UInt8.size]; omega)]
            omega
          have hy : 97 ≤ (UInt8.ofNat (97 + x.toNat % 26)).toNat ∧ (UInt8.ofNat (97 + x.toNat % 26)).toNat < 123 := by omega
          generalize UInt8.ofNat (97 + x.toNat % 26) = y at hz hy
          have hcv := conv_one wr y
          rw [hz] at hcv
          have hadd := fun W => run_string_add_lists (P := Tryd.prog) W (60 :: 63 :: m) [y] (by simp only [List.length_cons]; omega) (by simp)
          have HY := Lib.hid hy
          clear hz hy hml hmm
          go_wp2_with fail
          go_roundw
          case rel =>
            refine ⟨k + 1, m ++ [y], by omega, by go_num, rfl, ⟨?_, by omega, ?_⟩, HBL.out.alloc HBL.out.size _⟩
            · rw [List.length_append, HM.out.1]; rfl
            · intro c hc
              rcases List.mem_append.1 hc with hc | hc
              · exact HM.out.2.2 c hc
              · rw [List.mem_singleton.1 hc]; exact HY.out
          case measure => simp [intOf]; omega
        · have c100 : decide ((k : Int) < 100) = false := by simp; omega
          obtain ⟨S1, hS1⟩ : ∃ S1 : ByteArray, S1 = ⟨([60, 97, 62] ++ (60 :: 63 :: m)).toArray⟩ := ⟨_, rfl⟩
          obtain ⟨S2, hS2⟩ : ∃ S2 : ByteArray, S2 = ⟨([60, 97, 62] ++ (60 :: 63 :: m) ++ [62]).toArray⟩ := ⟨_, rfl⟩
          have hmlen : m.length ≤ 100 := by have := HM.out; omega
          have hadd1 : ∀ W, (Op.stringOp .add ⟨#[60, 97, 62]⟩ ⟨(60 :: 63 :: m).toArray⟩).run Tryd.prog W = .ok (.string S1) W := fun W => by
            rw [hS1]
            exact run_string_add_lists (P := Tryd.prog) W [60, 97, 62] (60 :: 63 :: m) (by simp) (by simp only [List.length_cons]; omega)
          have hadd2 : ∀ W, (Op.stringOp .add S1 ⟨#[62]⟩).run Tryd.prog W = .ok (.string S2) W := fun W => by
            rw [hS1, hS2]
            exact run_string_add_lists (P := Tryd.prog) W ([60, 97, 62] ++ (60 :: 63 :: m)) [62] (by simp; omega) (by simp)
          have hcv : ∀ W, (convert 9 22 (.string S2)).run Tryd.prog W = .ok (.slice (some ⟨W.heap.size, 0, none⟩) S2.size (grownCap W S2.size 0 5)) (Lib.bytesWorld W 5 S2) := fun W => Lib.run_convert_string_bytes W _ _ _ S2 Tryd.underlying9 Tryd.underlying22 Tryd.underlying5
          obtain ⟨p', hrun, hbr⟩ := barred 63 (by decide) m HM.out.2.2 (by omega)
          have hS2l : S2.data.toList = [60, 97, 62] ++ (60 :: ((63 :: m) ++ [62])) := by rw [hS2]; simp
          have HS2 := Lib.hid hS2l
          have HRUN := Lib.hid hrun
          have HBR := Lib.hid hbr
          have HML := Lib.hid hmlen
          have HNW := Lib.hid (new_any wr)
          clear hS1 hS2 hS2l hrun hbr hmlen
          go_wp2_with fail
          go_at_call 11
          with_reducible refine HNW.out.mono ?_
          rintro e w1 ⟨rfl, hw1⟩
          have HB1 := Lib.hid (show Below wr.heap.size wr w1 by rw [hw1]; exact (Below.refl _ wr).alloc (Nat.le_refl _) _)
          have HP1 := Lib.hid (show Par w1 wr.heap.size wr.heap.size ps0 (.slice none 0 0) (.slice none 0 0) by rw [hw1]; exact Par.new wr)
          have HS1 := Lib.hid (show w1.heap.size = wr.heap.size + 1 by rw [hw1, World.size_alloc])
          have HFE := Lib.hid (feed_str wr.heap.size w1 S2 HP1.out (by rw [Lib.size_eq, HS2.out]; simp; have := HML.out; omega))
          rw [HS2.out] at HFE
          rw [HRUN.out] at HFE
          clear hw1
          go_wp2_with fail
          go_at_call 12
          with_reducible refine HFE.out.mono ?_
          rintro e w3 ⟨vw3, vo3, v3, rfl, hP3, hT3, hB3⟩
          obtain ⟨a3, c3, rfl, h3⟩ := hT3.nilOr
          obtain ⟨g3, rfl, hg3, hg4, _⟩ := h3 (by simp)
          have HP3 := Lib.hid hP3
          have HB3 := Lib.hid hB3
          have HT3 := Lib.hid hT3
          have z7 : (((7 : Nat) : Int) == 7) = true := rfl
          have z1 : (((1 : Nat) : Int) == 1) = true := rfl
          clear hP3 hT3 hB3 h3
          go_wp2_with fail
          go_at_call 14
          with_reducible refine (HLV.out _).mono ?_
          rintro e w4 ⟨rfl, hB4⟩
          have hT4 := HT3.out.below hB4
          obtain ⟨_, _, hx1, _⟩ := hT4.at 0 (by decide)
          have x1 : w4.cell? ⟨g3, 1, none⟩ = some (.string ⟨#[97]⟩) := hx1
          have HBK := Lib.hid (broken_any wr.heap.size _ _ _ _ _ _ w4 (HP3.out.below hB4).box)
          rw [HBR.out] at HBK
          clear hT4 hx1
          go_wp2_with fail
          go_at_call 18
          with_reducible refine HBK.out.mono ?_
          rintro e w5 ⟨rfl, hw5⟩
          obtain rfl := hw5.symm
          go_wp2_with fail
          go_returns
          refine ⟨rfl, ?_⟩
          have hb1 := HBL.out.trans (HB1.out.mono HBL.out.size)
          have hb3 := hb1.trans (HB3.out.mono (by have := HS1.out; have := HBL.out.size; omega))
          exact hb3.trans (hB4.mono hb3.size)
      · have ck : decide ((k : Int) < (lb.length : Int)) = false := by simp; omega
        obtain ⟨S1, hS1⟩ : ∃ S1 : ByteArray, S1 = ⟨([60, 97, 62] ++ (60 :: 63 :: m)).toArray⟩ := ⟨_, rfl⟩
        obtain ⟨S2, hS2⟩ : ∃ S2 : ByteArray, S2 = ⟨([60, 97, 62] ++ (60 :: 63 :: m) ++ [62]).toArray⟩ := ⟨_, rfl⟩
        have hmlen : m.length ≤ 100 := by have := HM.out; omega
        have hadd1 : ∀ W, (Op.stringOp .add ⟨#[60, 97, 62]⟩ ⟨(60 :: 63 :: m).toArray⟩).run Tryd.prog W = .ok (.string S1) W := fun W => by
          rw [hS1]
          exact run_string_add_lists (P := Tryd.prog) W [60, 97, 62] (60 :: 63 :: m) (by simp) (by simp only [List.length_cons]; omega)
        have hadd2 : ∀ W, (Op.stringOp .add S1 ⟨#[62]⟩).run Tryd.prog W = .ok (.string S2) W := fun W => by
          rw [hS1, hS2]
          exact run_string_add_lists (P := Tryd.prog) W ([60, 97, 62] ++ (60 :: 63 :: m)) [62] (by simp; omega) (by simp)
        have hcv : ∀ W, (convert 9 22 (.string S2)).run Tryd.prog W = .ok (.slice (some ⟨W.heap.size, 0, none⟩) S2.size (grownCap W S2.size 0 5)) (Lib.bytesWorld W 5 S2) := fun W => Lib.run_convert_string_bytes W _ _ _ S2 Tryd.underlying9 Tryd.underlying22 Tryd.underlying5
        obtain ⟨p', hrun, hbr⟩ := barred 63 (by decide) m HM.out.2.2 (by omega)
        have hS2l : S2.data.toList = [60, 97, 62] ++ (60 :: ((63 :: m) ++ [62])) := by rw [hS2]; simp
        have HS2 := Lib.hid hS2l
        have HRUN := Lib.hid hrun
        have HBR := Lib.hid hbr
        have HML := Lib.hid hmlen
        have HNW := Lib.hid (new_any wr)
        clear hS1 hS2 hS2l hrun hbr hmlen
        go_wp2_with fail
        go_at_call 11
        with_reducible refine HNW.out.mono ?_
        rintro e w1 ⟨rfl, hw1⟩
        have HB1 := Lib.hid (show Below wr.heap.size wr w1 by rw [hw1]; exact (Below.refl _ wr).alloc (Nat.le_refl _) _)
        have HP1 := Lib.hid (show Par w1 wr.heap.size wr.heap.size ps0 (.slice none 0 0) (.slice none 0 0) by rw [hw1]; exact Par.new wr)
        have HS1 := Lib.hid (show w1.heap.size = wr.heap.size + 1 by rw [hw1, World.size_alloc])
        have HFE := Lib.hid (feed_str wr.heap.size w1 S2 HP1.out (by rw [Lib.size_eq, HS2.out]; simp; have := HML.out; omega))
        rw [HS2.out] at HFE
        rw [HRUN.out] at HFE
        clear hw1
        go_wp2_with fail
        go_at_call 12
        with_reducible refine HFE.out.mono ?_
        rintro e w3 ⟨vw3, vo3, v3, rfl, hP3, hT3, hB3⟩
        obtain ⟨a3, c3, rfl, h3⟩ := hT3.nilOr
        obtain ⟨g3, rfl, hg3, hg4, _⟩ := h3 (by simp)
        have HP3 := Lib.hid hP3
        have HB3 := Lib.hid hB3
        have HT3 := Lib.hid hT3
        have z7 : (((7 : Nat) : Int) == 7) = true := rfl
        have z1 : (((1 : Nat) : Int) == 1) = true := rfl
        clear hP3 hT3 hB3 h3
        go_wp2_with fail
        go_at_call 14
        with_reducible refine (HLV.out _).mono ?_
        rintro e w4 ⟨rfl, hB4⟩
        have hT4 := HT3.out.below hB4
        obtain ⟨_, _, hx1, _⟩ := hT4.at 0 (by decide)
        have x1 : w4.cell? ⟨g3, 1, none⟩ = some (.string ⟨#[97]⟩) := hx1
        have HBK := Lib.hid (broken_any wr.heap.size _ _ _ _ _ _ w4 (HP3.out.below hB4).box)
        rw [HBR.out] at HBK
        clear hT4 hx1
        go_wp2_with fail
        go_at_call 18
        with_reducible refine HBK.out.mono ?_
        rintro e w5 ⟨rfl, hw5⟩
        obtain rfl := hw5.symm
        go_wp2_with fail
        go_returns
        refine ⟨rfl, ?_⟩
        have hb1 := HBL.out.trans (HB1.out.mono HBL.out.size)
        have hb3 := hb1.trans (HB3.out.mono (by have := HS1.out; have := HBL.out.size; omega))
        exact hb3.trans (hB4.mono hb3.size)
  | false =>
    have hsv : ∀ m : List UInt8, (⟨(60 :: 33 :: m).toArray⟩ : ByteArray).size = m.length + 2 := fun m => by rw [Lib.size_eq]; simp
    have HSV := Lib.hid hsv
    clear hsv
    go_enter Tryd.func8, Tryd.ntmps8
    go_wp2_with fail
    go_loopw [5, 6] (fun sv iv W => ∃ (k : Nat) (m : List UInt8), k ≤ lb.length ∧ iv = .int .i64 k ∧ sv = .string ⟨(60 :: 33 :: m).toArray⟩ ∧ Hid (m.length = k ∧ k ≤ 100 ∧ ∀ c ∈ m, 97 ≤ c.toNat ∧ c.toNat < 123) ∧ Hid (Below w.heap.size w W)) (fun _ iv _ => lb.length - (intOf iv).toNat)
    case atStart => exact ⟨0, [], Nat.zero_le _, rfl, rfl, ⟨rfl, by omega, fun c hc => by cases hc⟩, Below.refl _ _⟩
    case round =>
      obtain ⟨k, m, hk, rfl, rfl, HM, HBL⟩ := hrel
      by_cases hlt : k < lb.length
      · have ck : decide ((k : Int) < (lb.length : Int)) = true := by simp; omega
        by_cases h100 : k < 100
        · have c100 : decide ((k : Int) < 100) = true := by simp; omega
          obtain ⟨a', c', hv, _, hcell⟩ := HB.out
          injection hv with hv1 hv2 hv3
          have hne : lb ≠ [] := fun e => by rw [e] at hlt; cases hlt
          obtain ⟨g, off, ha, hg, hx⟩ := hcell.resolve_left hne
          rw [← hv1] at ha
          subst ha
          have y0 : wr.cell? ⟨g, off + k, none⟩ = some (.int .u8 lb[k].toNat) := (HBL.out.cell (p := ⟨g, off + k, none⟩) hg).trans (hx k hlt)
          generalize lb[k] = x at y0
          have hx256 := x.toNat_lt
          clear hcell hx hne hv1 hv2 hv3
          obtain ⟨hml, hk1, hmm⟩ := HM.out
          have hz : (((UInt8.ofNat (97 + x.toNat % 26)).toNat : Nat) : Int) = 97 + (x.toNat : Int) % 26 := by
            rw [UInt8.toNat_ofNat_of_lt' (by simp [UInt8.size]; omega)]
            omega
          have hy : 97 ≤ (UInt8.ofNat (97 + x.toNat % 26)).toNat ∧ (UInt8.ofNat (97 + x.toNat % 26)).toNat < 123 := by omega
          generalize UInt8.ofNat (97 + x.toNat % 26) = y at hz hy
          have hcv := conv_one wr y
          rw [hz] at hcv
          have hadd := fun W => run_string_add_lists (P := Tryd.prog) W (60 :: 33 :: m) [y] (by simp only [List.length_cons]; omega) (by simp)
          have HY := Lib.hid hy
          clear hz hy hml hmm
          go_wp2_with fail
          go_roundw
          case rel =>
            refine ⟨k + 1, m ++ [y], by omega, by go_num, rfl, ⟨?_, by omega, ?_⟩, HBL.out.alloc HBL.out.size _⟩
            · rw [List.length_append, HM.out.1]; rfl
            · intro c hc
              rcases List.mem_append.1 hc with hc | hc
              · exact HM.out.2.2 c hc
              · rw [List.mem_singleton.1 hc]; exact HY.out
          case measure => simp [intOf]; omega
        · have c100 : decide ((k : Int) < 100) = false := by simp; omega
          obtain ⟨S1, hS1⟩ : ∃ S1 : ByteArray, S1 = ⟨([60, 97, 62] ++ (60 :: 33 :: m)).toArray⟩ := ⟨_, rfl⟩
          obtain ⟨S2, hS2⟩ : ∃ S2 : ByteArray, S2 = ⟨([60, 97, 62] ++ (60 :: 33 :: m) ++ [62]).toArray⟩ := ⟨_, rfl⟩
          have hmlen : m.length ≤ 100 := by have := HM.out; omega
          have hadd1 : ∀ W, (Op.stringOp .add ⟨#[60, 97, 62]⟩ ⟨(60 :: 33 :: m).toArray⟩).run Tryd.prog W = .ok (.string S1) W := fun W => by
            rw [hS1]
            exact run_string_add_lists (P := Tryd.prog) W [60, 97, 62] (60 :: 33 :: m) (by simp) (by simp only [List.length_cons]; omega)
          have hadd2 : ∀ W, (Op.stringOp .add S1 ⟨#[62]⟩).run Tryd.prog W = .ok (.string S2) W := fun W => by
            rw [hS1, hS2]
            exact run_string_add_lists (P := Tryd.prog) W ([60, 97, 62] ++ (60 :: 33 :: m)) [62] (by simp; omega) (by simp)
          have hcv : ∀ W, (convert 9 22 (.string S2)).run Tryd.prog W = .ok (.slice (some ⟨W.heap.size, 0, none⟩) S2.size (grownCap W S2.size 0 5)) (Lib.bytesWorld W 5 S2) := fun W => Lib.run_convert_string_bytes W _ _ _ S2 Tryd.underlying9 Tryd.underlying22 Tryd.underlying5
          obtain ⟨p', hrun, hbr⟩ := barred 33 (by decide) m HM.out.2.2 (by omega)
          have hS2l : S2.data.toList = [60, 97, 62] ++ (60 :: ((33 :: m) ++ [62])) := by rw [hS2]; simp
          have HS2 := Lib.hid hS2l
          have HRUN := Lib.hid hrun
          have HBR := Lib.hid hbr
          have HML := Lib.hid hmlen
          have HNW := Lib.hid (new_any wr)
          clear hS1 hS2 hS2l hrun hbr hmlen
          go_wp2_with fail
          go_at_call 11
          with_reducible refine HNW.out.mono ?_
          rintro e w1 ⟨rfl, hw1⟩
          have HB1 := Lib.hid (show Below wr.heap.size wr w1 by rw [hw1]; exact (Below.refl _ wr).alloc (Nat.le_refl _) _)
          have HP1 := Lib.hid (show Par w1 wr.heap.size wr.heap.size ps0 (.slice none 0 0) (.slice none 0 0) by rw [hw1]; exact Par.new wr)
          have HS1 := Lib.hid (show w1.heap.size = wr.heap.size + 1 by rw [hw1, World.size_alloc])
          have HFE := Lib.hid (feed_str wr.heap.size w1 S2 HP1.out (by rw [Lib.size_eq, HS2.out]; simp; have := HML.out; omega))
          rw [HS2.out] at HFE
          rw [HRUN.out] at HFE
          clear hw1
          go_wp2_with fail
          go_at_call 12
          with_reducible refine HFE.out.mono ?_
          rintro e w3 ⟨vw3, vo3, v3, rfl, hP3, hT3, hB3⟩
          obtain ⟨a3, c3, rfl, h3⟩ := hT3.nilOr
          obtain ⟨g3, rfl, hg3, hg4, _⟩ := h3 (by simp)
          have HP3 := Lib.hid hP3
          have HB3 := Lib.hid hB3
          have HT3 := Lib.hid hT3
          have z7 : (((7 : Nat) : Int) == 7) = true := rfl
          have z1 : (((1 : Nat) : Int) == 1) = true := rfl
          clear hP3 hT3 hB3 h3
          go_wp2_with fail
          go_at_call 14
          with_reducible refine (HLV.out _).mono ?_
          rintro e w4 ⟨rfl, hB4⟩
          have hT4 := HT3.out.below hB4
          obtain ⟨_, _, hx1, _⟩ := hT4.at 0 (by decide)
          have x1 : w4.cell? ⟨g3, 1, none⟩ = some (.string ⟨#[97]⟩) := hx1
          have HBK := Lib.hid (broken_any wr.heap.size _ _ _ _ _ _ w4 (HP3.out.below hB4).box)
          rw [HBR.out] at HBK
          clear hT4 hx1
          go_wp2_with fail
          go_at_call 18
          with_reducible refine HBK.out.mono ?_
          rintro e w5 ⟨rfl, hw5⟩
          obtain rfl := hw5.symm
          go_wp2_with fail
          go_returns
          refine ⟨rfl, ?_⟩
          have hb1 := HBL.out.trans (HB1.out.mono HBL.out.size)
          have hb3 := hb1.trans (HB3.out.mono (by have := HS1.out; have := HBL.out.size; omega))
          exact hb3.trans (hB4.mono hb3.size)
      · have ck : decide ((k : Int) < (lb.length : Int)) = false := by simp; omega
        obtain ⟨S1, hS1⟩ : ∃ S1 : ByteArray, S1 = ⟨([60, 97, 62] ++ (60 :: 33 :: m)).toArray⟩ := ⟨_, rfl⟩
        obtain ⟨S2, hS2⟩ : ∃ S2 : ByteArray, S2 = ⟨([60, 97, 62] ++ (60 :: 33 :: m) ++ [62]).toArray⟩ := ⟨_, rfl⟩
        have hmlen : m.length ≤ 100 := by have := HM.out; omega
        have hadd1 : ∀ W, (Op.stringOp .add ⟨#[60, 97, 62]⟩ ⟨(60 :: 33 :: m).toArray⟩).run Tryd.prog W = .ok (.string S1) W := fun W => by
          rw [hS1]
          exact run_string_add_lists (P := Tryd.prog) W [60, 97, 62] (60 :: 33 :: m) (by simp) (by simp only [List.length_cons]; omega)
        have hadd2 : ∀ W, (Op.stringOp .add S1 ⟨#[62]⟩).run Tryd.prog W = .ok (.string S2) W := fun W => by
          rw [hS1, hS2]
          exact run_string_add_lists (P := Tryd.prog) W ([60, 97, 62] ++ (60 :: 33 :: m)) [62] (by simp; omega) (by simp)
        have hcv : ∀ W, (convert 9 22 (.string S2)).run Tryd.prog W = .ok (.slice (some ⟨W.heap.size, 0, none⟩) S2.size (grownCap W S2.size 0 5)) (Lib.bytesWorld W 5 S2) := fun W => Lib.run_convert_string_bytes W _ _ _ S2 Tryd.underlying9 Tryd.underlying22 Tryd.underlying5
        obtain ⟨p', hrun, hbr⟩ := barred 33 (by decide) m HM.out.2.2 (by omega)
        have hS2l : S2.data.toList = [60, 97, 62] ++ (60 :: ((33 :: m) ++ [62])) := by rw [hS2]; simp
        have HS2 := Lib.hid hS2l
        have HRUN := Lib.hid hrun
        have HBR := Lib.hid hbr
        have HML := Lib.hid hmlen
        have HNW := Lib.hid (new_any wr)
        clear hS1 hS2 hS2l hrun hbr hmlen
        go_wp2_with fail
        go_at_call 11
        with_reducible refine HNW.out.mono ?_
        rintro e w1 ⟨rfl, hw1⟩
        have HB1 := Lib.hid (show Below wr.heap.size wr w1 by rw [hw1]; exact (Below.refl _ wr).alloc (Nat.le_refl _) _)
        have HP1 := Lib.hid (show Par w1 wr.heap.size wr.heap.size ps0 (.slice none 0 0) (.slice none 0 0) by rw [hw1]; exact Par.new wr)
        have HS1 := Lib.hid (show w1.heap.size = wr.heap.size + 1 by rw [hw1, World.size_alloc])
        have HFE := Lib.hid (feed_str wr.heap.size w1 S2 HP1.out (by rw [Lib.size_eq, HS2.out]; simp; have := HML.out; omega))
        rw [HS2.out] at HFE
        rw [HRUN.out] at HFE
        clear hw1
        go_wp2_with fail
        go_at_call 12
        with_reducible refine HFE.out.mono ?_
        rintro e w3 ⟨vw3, vo3, v3, rfl, hP3, hT3, hB3⟩
        obtain ⟨a3, c3, rfl, h3⟩ := hT3.nilOr
        obtain ⟨g3, rfl, hg3, hg4, _⟩ := h3 (by simp)
        have HP3 := Lib.hid hP3
        have HB3 := Lib.hid hB3
        have HT3 := Lib.hid hT3
        have z7 : (((7 : Nat) : Int) == 7) = true := rfl
        have z1 : (((1 : Nat) : Int) == 1) = true := rfl
        clear hP3 hT3 hB3 h3
        go_wp2_with fail
        go_at_call 14
        with_reducible refine (HLV.out _).mono ?_
        rintro e w4 ⟨rfl, hB4⟩
        have hT4 := HT3.out.below hB4
        obtain ⟨_, _, hx1, _⟩ := hT4.at 0 (by decide)
        have x1 : w4.cell? ⟨g3, 1, none⟩ = some (.string ⟨#[97]⟩) := hx1
        have HBK := Lib.hid (broken_any wr.heap.size _ _ _ _ _ _ w4 (HP3.out.below hB4).box)
        rw [HBR.out] at HBK
        clear hT4 hx1
        go_wp2_with fail
        go_at_call 18
        with_reducible refine HBK.out.mono ?_
        rintro e w5 ⟨rfl, hw5⟩
        obtain rfl := hw5.symm
        go_wp2_with fail
        go_returns
        refine ⟨rfl, ?_⟩
        have hb1 := HBL.out.trans (HB1.out.mono HBL.out.size)
        have hb3 := hb1.trans (HB3.out.mono (by have := HS1.out; have := HBL.out.size; omega))
        exact hb3.trans (hB4.mono hb3.size)
end Go.Proofs.YtppgjkjdddanbaaDoor
