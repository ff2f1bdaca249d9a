/- The law XmlLimits: the walk. -/
import Derived.Test.YtppgjkjdddanbaaDoorH2
namespace Go.Proofs.YtppgjkjdddanbaaDoor
open Go.RowKit
open Hb

/-- a row of rows of bytes -/
def InBB (w : World) (a : Option Addr) (n cap : Nat) (f : Nat → Value × List UInt8) : Prop := n ≤ cap ∧ ∀ i, i < n → (∃ g off, a = some ⟨g, off, none⟩ ∧ g < w.heap.size ∧ w.cell? ⟨g, off + i, none⟩ = some (f i).1) ∧ InB w (f i).1 (f i).2 ∧ (f i).2.length ≤ maxLen

/-- the parser between the laws' Feeds -/
def StL (w : World) (W : World) : Prop := ∃ (pk : PS) (vw vo : Value), Par W w.heap.size w.heap.size pk vw vo ∧ pk.opn.length ≤ 8 ∧ (pk.broken = 0 → Fit8 pk) ∧ Below w.heap.size w W

/-- a Feed of any parser that a law holds. -/
theorem feed_any2 (w W : World) (l : List UInt8) (a : Option Addr) (cap : Nat) (hS : StL w W) (hv : InB w (.slice a l.length cap) l) (hl : l.length ≤ 3000) :
    Calls Tryd.prog 12 #[pt w.heap.size, .slice a l.length cap] W fun o w' => ∃ (vout : Value) (e d n : Nat) (go : Option Addr) (co : Nat) (gw : Option Addr) (cw : Nat) (q ro be br : Value), o = .returned (.tuple #[vout, .int .i64 e]) ∧ StL w w' ∧ d ≤ 8 ∧ (e = 0 → n ≤ 2048) ∧
      Box w' w.heap.size 47 #[.slice gw n cw, q, .slice go d co, ro, be, br] := by
  obtain ⟨pk, vw, vo, hP, ho, hf, hB⟩ := hS
  by_cases hbr : pk.broken = 0
  · refine (feed_told w.heap.size w.heap.size w.heap.size pk l vw vo _ W hP (.inl rfl) (hf hbr) hbr (hv.bytesAt hB (Nat.le_refl _) (Nat.le_refl _)) hB.size (by omega)).mono ?_
    rintro o w' ⟨vw', vo', vout, h1, h2, h3, h4⟩
    obtain ⟨gw, cw, hgw⟩ := ownB_slice h2.wait
    obtain ⟨go, co, hgo⟩ := row_slice h2.opn
    have hfit := runP_fit l pk (hf hbr)
    have hbx := h2.box
    rw [hgw, hgo] at hbx
    refine ⟨vout, _, _, _, go, co, gw, cw, _, _, _, _, h1, ⟨_, _, _, h2, hfit.1, fun h0 => hfit.2.2.1 (by rw [← hfit.2.2.2 hbr]; exact h0), hB.trans (h4.belowOf (Nat.le_refl _) (Nat.le_refl _) hB.size)⟩, hfit.1, fun h0 => (hfit.2.2.1 h0).wait, hbx⟩
  · refine (feed_broken w.heap.size w.heap.size pk vw vo a l.length cap W hP hbr).mono ?_
    rintro o w' ⟨h1, h2⟩
    have hP2 := hP.below h2
    obtain ⟨gw, cw, hgw⟩ := ownB_slice hP2.wait
    obtain ⟨go, co, hgo⟩ := row_slice hP2.opn
    have hbx := hP2.box
    rw [hgw, hgo] at hbx
    exact ⟨_, pk.broken, _, _, go, co, gw, cw, _, _, _, _, h1, ⟨_, _, _, hP2, ho, fun h0 => absurd h0 hbr, hB.trans (h2.mono hB.size)⟩, ho, fun h0 => absurd h0 hbr, hbx⟩

set_option maxRecDepth 100000 in
set_option maxHeartbeats 8000000 in
theorem xmlLimits_walk (w : World) (a : Option Addr) (n cap : Nat) (f : Nat → Value × List UInt8) (hf : InBB w a n cap f) (_ : n ≤ 9223372036854775807) :
    Calls Tryd.prog 6 #[.slice a n cap] w fun e w' => e = .returned (.bool true) ∧ Below w.heap.size w w' := by
  have HF := Lib.hid hf
  have HN := Lib.hid (new_any w)
  have HLV := Lib.hid live_any
  clear hf
  go_enter Tryd.func6, Tryd.ntmps6
  go_wp2_with fail
  go_at_call 11
  with_reducible refine HN.out.mono ?_
  rintro e w1 ⟨rfl, hw1⟩
  have HB1 := Lib.hid (show Below w.heap.size w w1 by rw [hw1]; exact (Below.refl _ w).alloc (Nat.le_refl _) _)
  have HP1 := Lib.hid (show Par w1 w.heap.size w.heap.size ps0 (.slice none 0 0) (.slice none 0 0) by rw [hw1]; exact Par.new w)
  clear hw1
  go_wp2_with fail
  go_loopw [4] (fun iv W => ∃ k : Nat, k ≤ n ∧ iv = .int .i64 k ∧ Hid (StL w W)) (fun iv _ => n - (intOf iv).toNat)
  case atStart => exact ⟨0, Nat.zero_le _, rfl, ps0, _, _, HP1.out, by decide, fun _ => fit0, HB1.out⟩
  case round =>
    obtain ⟨k, hk, rfl, HS⟩ := hrel
    by_cases hlt : k < n
    · have ck : decide ((k : Int) < (n : Int)) = true := by simp; omega
      by_cases h20 : k < 20
      · have c20 : decide ((k : Int) < 20) = true := by simp; omega
        obtain ⟨⟨g, off, ha, hg, hc⟩, hin, hlen⟩ := HF.out.2 k hlt
        subst ha
        have HB := Lib.hid (show Below w.heap.size w wr from by obtain ⟨_, _, _, _, _, _, h⟩ := HS.out; exact h)
        have y0 : wr.cell? ⟨g, off + k, none⟩ = some (f k).1 := (HB.out.cell (p := ⟨g, off + k, none⟩) hg).trans hc
        have b1 : (0 : Int) ≤ (k : Int) := by omega
        have HFW := Lib.hid (few_any (f k).1 (f k).2 w wr hin (by unfold maxLen at hlen; omega))
        have hll := few_len (f k).2
        generalize (f k).1 = vk at y0 hin HFW
        generalize hlk : (f k).2.take 3000 = lk at HFW hll
        have hvk : ∃ a c, vk = .slice a (f k).2.length c := by obtain ⟨a, c, h, _⟩ := hin; exact ⟨a, c, h⟩
        obtain ⟨ak, cck, rfl⟩ := hvk
        clear hin hlen hc hlk
        generalize (f k).2.length = nk at y0 HFW
        go_wp2_with fail
        go_at_call 13
        with_reducible refine HFW.out.mono ?_
        rintro e w2 ⟨⟨v2, rfl, hv2⟩, hw2⟩
        obtain rfl := hw2.symm
        obtain ⟨a2, c2, rfl⟩ : ∃ a c, v2 = .slice a lk.length c := by obtain ⟨a, c, h, _⟩ := hv2; exact ⟨a, c, h⟩
        have HFE := Lib.hid (feed_any2 w wr lk a2 c2 HS.out hv2 hll)
        clear hv2
        go_wp2_with fail
        go_at_call 12
        with_reducible refine HFE.out.mono ?_
        rintro e w3 ⟨vout, e3, d3, n3, go, co, gw, cw, q3, ro3, be3, br3, rfl, hS3, hd3, hn3, hbx3⟩
        have HS3 := Lib.hid hS3
        have HDP := Lib.hid (depth_any w.heap.size _ _ _ _ _ go d3 co w3 hbx3)
        have HLF := Lib.hid (left_any w.heap.size _ _ _ _ _ gw n3 cw w3 hbx3)
        have cd : decide ((8 : Int) < (d3 : Int)) = false := by simp; omega
        clear hS3 hbx3
        by_cases he : e3 = 0
        · have hn4 := hn3 he
          subst he
          have cn : decide ((2048 : Int) < (n3 : Int)) = false := by simp; omega
          have c0 : (((0 : Nat) : Int) == 0) = true := rfl
          go_wp2_with fail
          go_at_call 15
          with_reducible refine HDP.out.mono ?_
          rintro e w4 ⟨rfl, hw4⟩
          obtain rfl := hw4.symm
          go_wp2_with fail
          go_at_call 17
          with_reducible refine HLF.out.mono ?_
          rintro e w5 ⟨rfl, hw5⟩
          obtain rfl := hw5.symm
          go_wp2_with fail
          go_roundw
          case rel => exact ⟨k + 1, by omega, by go_num, HS3.out⟩
          case measure => simp [intOf]; omega
        · have c0 : ((e3 : Int) == 0) = false := by rw [beq_eq_false_iff_ne]; omega
          go_wp2_with fail
          go_at_call 15
          with_reducible refine HDP.out.mono ?_
          rintro e w4 ⟨rfl, hw4⟩
          obtain rfl := hw4.symm
          go_wp2_with fail
          go_roundw
          case rel => exact ⟨k + 1, by omega, by go_num, HS3.out⟩
          case measure => simp [intOf]; omega
      · have c20 : decide ((k : Int) < 20) = false := by simp; omega
        go_wp2_with fail
        go_at_call 14
        with_reducible refine (HLV.out _).mono ?_
        rintro e w3 ⟨rfl, hB3⟩
        go_wp2_with fail
        go_returns
        obtain ⟨_, _, _, _, _, _, hB⟩ := HS.out
        exact ⟨rfl, hB.trans (hB3.mono hB.size)⟩
    · have ck : decide ((k : Int) < (n : Int)) = false := by simp; omega
      go_wp2_with fail
      go_at_call 14
      with_reducible refine (HLV.out _).mono ?_
      rintro e w3 ⟨rfl, hB3⟩
      go_wp2_with fail
      go_returns
      obtain ⟨_, _, _, _, _, _, hB⟩ := HS.out
      exact ⟨rfl, hB.trans (hB3.mono hB.size)⟩
end Go.Proofs.YtppgjkjdddanbaaDoor
