/- node.writer: word, number, of. Written by gen_b3.py. -/
import Derived.Test.YtpjaopcgoaannaaGreatDoorB1
import Derived.Test.YtpjaopcgoaannaaGreatDoorB2
import Derived.Test.YtpjaopcgoaannaaGreatDoorN6
import Derived.Test.YtpjaopcgoaannaaGreatDoorN19
import Derived.Deep.RegionHeld3
import Derived.LoopTactic
namespace Go.Proofs.YtpjaopcgoaannaaGreatDoor
open Go.RowKit Go.Lib
open Hb

/-- a writer that holds those bytes -/
def WrI (B b : Nat) (l : List UInt8) (w : World) : Prop := Lib.IsBuilder 43 5 B b (Lib.byteCells l) w
theorem WrI.below {B b : Nat} {l : List UInt8} {w w' : World} (h : WrI B b l w) (hb : Below w.heap.size w w') : WrI B b l w' := by
  have key : ∀ p, Lib.BuilderAt 43 5 B b p (Lib.byteCells l) w → Lib.BuilderAt 43 5 B b p (Lib.byteCells l) w' := by
    intro p hp
    obtain ⟨h1, v, h2, h3, h4⟩ := id hp
    exact ⟨h1, v, (hb.block b hp.lt).trans h2, World.ownsRow.kept h3 (row := none) (gBelow hb none) (by cases hv : v.ownBlock with | none => exact .inl rfl | some k => exact .inr (by simp)), h4⟩
  rcases h with h | h
  · exact .inl (key _ h)
  · exact .inr (key _ h)
theorem RowI.fw {w w' : World} {g size : Nat} {T : TypeId} {xs : List Value} (h : RowI w g T size xs) (hf : Fw w w') (h1 : T ≠ 43) (h2 : T ≠ 5) : RowI w' g T size xs := by
  refine h.kept (hf.2 g h.lt ?_)
  intro cs T' z hc
  obtain ⟨ys, h3, _⟩ := h
  rw [h3] at hc
  cases hc
  exact ⟨h1, h2⟩
/-- the table of powers, as the program's text lays it -/
def Tab (w : World) : Prop := Lib.TabIs Tryz.prog w "internal/strconv.uint64pow10" .u64 Lib.pow10Tab
noncomputable def tabG : Nat := (Tryz.prog.globalNamed "internal/strconv.uint64pow10").getD 0
theorem tabG_is : Tryz.prog.globalNamed "internal/strconv.uint64pow10" = some tabG := by kernel_rfl
theorem Tab.lt {w : World} (h : Tab w) : tabG < w.heap.size := by
  unfold Tab Lib.TabIs World.var? at h
  rw [tabG_is] at h
  rcases Nat.lt_or_ge tabG w.heap.size with q | q
  · exact q
  · simp [Array.getElem?_eq_none q] at h
theorem Tab.below {B : Nat} {w w' : World} (h : Tab w) (hb : Below B w w') (hG : tabG < B) : Tab w' := by
  unfold Tab Lib.TabIs World.var? at *
  rw [tabG_is] at *
  simp only [Option.bind_some] at *
  rw [hb.block tabG hG]
  exact h
theorem below_grows {w w' : World} {k : Nat} {os : Array Obj} (h : w' = Go.Sort.grow (w.drewN k) os) : Below w.heap.size w w' := by
  subst h
  have h1 : Below w.heap.size w (w.drewN k) := bdrewN (Below.refl _ w) k
  refine ⟨h1.os, h1.tape, h1.output, ?_, ?_⟩
  · show w.heap.size ≤ ((w.drewN k).heap ++ os).size
    rw [Array.size_append]
    have := h1.size
    omega
  · intro i hi
    show ((w.drewN k).heap ++ os)[i]? = _
    rw [Array.getElem?_append_left (Nat.lt_of_lt_of_le hi h1.size)]
    exact h1.block i hi
theorem itoa_any (n : Nat) (hn : n < 1000) (w : World) (hT : Tab w) : Calls Tryz.prog 33 #[.int .i64 n] w fun e w' => e = .returned (.string (bs (dig n))) ∧ Below w.heap.size w w' := by
  refine (Tryz.strconv_Itoa n (by omega) (by omega) w hT).mono ?_
  rintro e w' ⟨rfl, k, os, hw⟩
  refine ⟨?_, below_grows hw⟩
  have e1 : Lib.itoa (n : Int) = dig n := by
    unfold Lib.itoa
    rw [if_neg (by omega), Int.toNat_natCast, dig_dec n hn]
  rw [e1]
theorem size_bl (s : ByteArray) : s.size = (bl s).length := by
  show s.data.size = _
  rw [Array.length_toList]
theorem cells_bs (l : List UInt8) (s : ByteArray) : Lib.byteCells l ++ Lib.strCells s = Lib.byteCells (l ++ bl s) := by rw [Lib.byteCells_append]; rfl
theorem write_any (B b : Nat) (l : List UInt8) (s : ByteArray) (w : World) (h : WrI B b l w) (hl : l.length ≤ 1000000) (hs : (bl s).length ≤ 1000000) (hB : B ≤ w.heap.size) :
    Calls Tryz.prog 32 #[.pointer (some ⟨b, 0, none⟩), .string s] w fun e w' => e = .returned (.tuple #[.int .i64 s.size, .nilIface]) ∧ WrI B b (l ++ bl s) w' ∧ Below B w w' ∧ Fw w w' := by
  refine (writeString_any B b _ s w h ?_ hB).mono ?_
  · rw [Lib.byteCells_length, size_bl]
    omega
  rintro e w' ⟨rfl, h1, h2, h3⟩
  rw [cells_bs] at h1
  exact ⟨rfl, .inr h1, h2, h3⟩

def ofS (c : Bool) (y n : ByteArray) : ByteArray := if c then y else n
theorem of_any (c : Bool) (y n : ByteArray) (w : World) : Calls Tryz.prog 11 #[.bool c, .string y, .string n] w fun e w' => e = .returned (.string (ofS c y n)) ∧ w' = w := by
  cases c with
  | true =>
    go_enter Tryz.func11, Tryz.ntmps11
    go_wp2_with fail
    go_returns
    exact ⟨rfl, rfl⟩
  | false =>
    go_enter Tryz.func11, Tryz.ntmps11
    go_wp2_with fail
    go_returns
    exact ⟨rfl, rfl⟩

/-- the words of texts -/
def wordsL (ls : List ByteArray) : List UInt8 := ls.flatMap fun s => wordL (bl s)
theorem wordsL_take {ls : List ByteArray} {k : Nat} (h : k < ls.length) : wordsL (ls.take (k + 1)) = wordsL (ls.take k) ++ wordL (bl ls[k]) := by
  unfold wordsL
  rw [← List.take_append_getElem h, List.flatMap_append]
  simp
theorem wordL_len {s : List UInt8} (h : s.length < 1000) : (wordL s).length ≤ 1003 := by
  unfold wordL
  have := dig_len s.length
  simp only [List.length_append, List.length_cons]
  omega
theorem wordsL_len : ∀ (ls : List ByteArray), (∀ s ∈ ls, (bl s).length < 1000) → (wordsL ls).length ≤ 1003 * ls.length
  | [], _ => Nat.zero_le _
  | s :: r, h => by
    have h1 := wordsL_len r (fun x hx => h x (.tail _ hx))
    have h2 := wordL_len (h s (.head _))
    unfold wordsL at *
    rw [List.flatMap_cons, List.length_append, List.length_cons]
    omega
/-- a row of texts in a block of its own -/
abbrev StrRow (w : World) (g : Nat) (ls : List ByteArray) : Prop := RowI w g 9 ls.length (ls.map Value.string)

set_option maxRecDepth 100000 in
set_option maxHeartbeats 8000000 in
theorem word_any (B b g : Nat) (l : List UInt8) (ls : List ByteArray) (w : World) (h : WrI B b l w) (hr : StrRow w g ls) (hlen : ∀ s ∈ ls, (bl s).length < 1000) (hn : ls.length ≤ 5) (hl : l.length ≤ 900000) (hB : B ≤ w.heap.size) (hT : Tab w) (hG : tabG < B) :
    Calls Tryz.prog 10 #[.pointer (some ⟨b, 0, none⟩), .slice (some ⟨g, 0, none⟩) ls.length ls.length] w fun e w' => e = .returned (.tuple #[]) ∧ WrI B b (l ++ wordsL ls) w' ∧ Below B w w' ∧ Fw w w' := by
  have HI := Lib.hid h
  have HR := Lib.hid hr
  have HN := Lib.hid hlen
  have HB := Lib.hid hB
  have HT := Lib.hid hT
  have HL := Lib.hid hl
  have HG := Lib.hid hG
  have mixed : Tryz.prog.follows .mixedOrders = true := by kernel_rfl
  clear h hr hlen hB hT hl hG
  go_enter Tryz.func10, Tryz.ntmps10
  go_wp2_with fail
  go_loopw [8] (fun iv W => ∃ k : Nat, k ≤ ls.length ∧ iv = .int .i64 k ∧ Hid (WrI B b (l ++ wordsL (ls.take k)) W) ∧ Hid (Below B w W) ∧ Hid (Fw w W)) (fun iv _ => ls.length - (intOf iv).toNat)
  case atStart => exact ⟨0, Nat.zero_le _, rfl, by show WrI _ _ _ _; simpa [wordsL] using HI.out, Below.refl _ _, Fw.refl _⟩
  case round =>
    obtain ⟨k, hk, rfl, HW, HBw, HF⟩ := hrel
    by_cases hlt : k < ls.length
    · have ck : decide ((k : Int) < (ls.length : Int)) = true := by rw [decide_eq_true_eq]; omega
      have hs := HN.out ls[k] (List.getElem_mem hlt)
      have hc : wr.cell? ⟨g, k, none⟩ = some (.string ls[k]) := (HR.out.fw HF.out (by decide) (by decide)).at k _ (by rw [List.getElem?_map, List.getElem?_eq_getElem hlt]; rfl)
      have HTK := Lib.hid (wordsL_take hlt)
      have hll : (l ++ wordsL (ls.take k)).length ≤ 910000 := by
        have h1 := wordsL_len (ls.take k) (fun s hs => HN.out s (List.mem_of_mem_take hs))
        rw [List.length_take] at h1
        rw [List.length_append]
        have := HL.out
        omega
      have HLL := Lib.hid hll
      obtain ⟨l0, hl0⟩ : ∃ l0, l ++ wordsL (ls.take k) = l0 := ⟨_, rfl⟩
      have HL0 := Lib.hid hl0
      rw [hl0] at HW HLL
      clear hl0
      generalize ls[k] = s at hs hc HTK
      obtain ⟨n0, hn0⟩ : ∃ n0, n0 = s.size := ⟨_, rfl⟩
      have hn1 : n0 < 1000 := by rw [hn0, size_bl]; exact hs
      have HIt := Lib.hid (fun W (hW : Below B w W) => itoa_any n0 hn1 W (HT.out.below hW HG.out))
      have HN0 := Lib.hid hn0
      have HS := Lib.hid hs
      clear hs hll hn0
      go_upto_region 3 with fail
      refine wp_region_held_drew (S := fun _ => True) mixed trivial (fun hHeld => ?_)
      first
        | (refine wpAnyH_take (i := 0) (oi := { dst := _, op := _, type := _, pos := _, after := _, guard := _ }) (v := _) rfl (by kernel_rfl) (by kernel_rfl) (by kernel_rfl) (fun _ _ _ h => h) (Or.inr ⟨by rfl, rfl⟩) hHeld ?_; (try simp only [Act.put, List.setIfInBounds_toArray, List.set_cons_zero, List.set_cons_succ]))
        | (refine wpAnyH_take (i := 0) (oi := { dst := _, op := _, type := _, pos := _, after := _, guard := _ }) (v := ?_) rfl (by kernel_rfl) (by kernel_rfl) (by kernel_rfl) (fun _ _ _ h => h) (Or.inl ⟨by rfl, ?_⟩) hHeld ?_; rotate_left; (focus (intro wS hSw; (try dsimp only at hSw); go_simp; (try with_reducible rfl); done)); (try simp only [Act.put, List.setIfInBounds_toArray, List.set_cons_zero, List.set_cons_succ]))
      first
        | (refine wpAnyH_take (i := 1) (oi := { dst := _, op := _, type := _, pos := _, after := _, guard := _ }) (v := _) rfl (by kernel_rfl) (by kernel_rfl) (by kernel_rfl) (fun _ _ _ h => h) (Or.inr ⟨by rfl, rfl⟩) hHeld ?_; (try simp only [Act.put, List.setIfInBounds_toArray, List.set_cons_zero, List.set_cons_succ]))
        | (refine wpAnyH_take (i := 1) (oi := { dst := _, op := _, type := _, pos := _, after := _, guard := _ }) (v := ?_) rfl (by kernel_rfl) (by kernel_rfl) (by kernel_rfl) (fun _ _ _ h => h) (Or.inl ⟨by rfl, ?_⟩) hHeld ?_; rotate_left; (focus (intro wS hSw; (try dsimp only at hSw); go_simp; (try with_reducible rfl); done)); (try simp only [Act.put, List.setIfInBounds_toArray, List.set_cons_zero, List.set_cons_succ]))
      first
        | (refine wpAnyH_take (i := 2) (oi := { dst := _, op := _, type := _, pos := _, after := _, guard := _ }) (v := _) rfl (by kernel_rfl) (by kernel_rfl) (by kernel_rfl) (fun _ _ _ h => h) (Or.inr ⟨by rfl, rfl⟩) hHeld ?_; (try simp only [Act.put, List.setIfInBounds_toArray, List.set_cons_zero, List.set_cons_succ]))
        | (refine wpAnyH_take (i := 2) (oi := { dst := _, op := _, type := _, pos := _, after := _, guard := _ }) (v := ?_) rfl (by kernel_rfl) (by kernel_rfl) (by kernel_rfl) (fun _ _ _ h => h) (Or.inl ⟨by rfl, ?_⟩) hHeld ?_; rotate_left; (focus (intro wS hSw; (try dsimp only at hSw); go_simp; (try with_reducible rfl); done)); (try simp only [Act.put, List.setIfInBounds_toArray, List.set_cons_zero, List.set_cons_succ]))
      first
        | (refine wpAnyH_take (i := 3) (oi := { dst := _, op := _, type := _, pos := _, after := _, guard := _ }) (v := _) rfl (by kernel_rfl) (by kernel_rfl) (by kernel_rfl) (fun _ _ _ h => h) (Or.inr ⟨by rfl, rfl⟩) hHeld ?_; (try simp only [Act.put, List.setIfInBounds_toArray, List.set_cons_zero, List.set_cons_succ]))
        | (refine wpAnyH_take (i := 3) (oi := { dst := _, op := _, type := _, pos := _, after := _, guard := _ }) (v := ?_) rfl (by kernel_rfl) (by kernel_rfl) (by kernel_rfl) (fun _ _ _ h => h) (Or.inl ⟨by rfl, ?_⟩) hHeld ?_; rotate_left; (focus (intro wS hSw; (try dsimp only at hSw); go_simp; (try with_reducible rfl); done)); (try simp only [Act.put, List.setIfInBounds_toArray, List.set_cons_zero, List.set_cons_succ]))
      first
        | (refine wpAnyH_take (i := 4) (oi := { dst := _, op := _, type := _, pos := _, after := _, guard := _ }) (v := _) rfl (by kernel_rfl) (by kernel_rfl) (by kernel_rfl) (fun _ _ _ h => h) (Or.inr ⟨by rfl, rfl⟩) hHeld ?_; (try simp only [Act.put, List.setIfInBounds_toArray, List.set_cons_zero, List.set_cons_succ]))
        | (refine wpAnyH_take (i := 4) (oi := { dst := _, op := _, type := _, pos := _, after := _, guard := _ }) (v := ?_) rfl (by kernel_rfl) (by kernel_rfl) (by kernel_rfl) (fun _ _ _ h => h) (Or.inl ⟨by rfl, ?_⟩) hHeld ?_; rotate_left; (focus (intro wS hSw; (try dsimp only at hSw); go_simp; (try with_reducible rfl); done)); (try simp only [Act.put, List.setIfInBounds_toArray, List.set_cons_zero, List.set_cons_succ]))
      refine wpAnyH_ready (rs := [5]) (by kernel_rfl) (by simp) ?_
      refine AllReadyH.cons (o := { dst := _, op := _, type := _, pos := _, after := _, guard := _ }) rfl (fun K hK => ?_) AllReadyH.nil
      go_simp
      rw [← HN0.out]
      go_at_call 33
      have hdr : Below wr.heap.size wr wr.drew := (Below.refl _ _).drew
      (with_reducible refine (HIt.out _ (HBw.out.trans (hdr.mono (Nat.le_trans HB.out HBw.out.size)))).mono ?_)
      rintro e w1 ⟨rfl, hb1⟩
      have HB1 := Lib.hid (hdr.trans (hb1.mono hdr.size))
      clear hb1 hdr
      go_wp2_with fail
      refine hK.out _ _ ?_ (fun hHeld => ?_)
      focus (exact trivial)
      clear hK K
      (try simp only [Act.put, List.setIfInBounds_toArray, List.set_cons_zero, List.set_cons_succ])
      refine wpAnyH_ready (rs := [6]) (by kernel_rfl) (by simp) ?_
      refine AllReadyH.cons (o := { dst := _, op := _, type := _, pos := _, after := _, guard := _ }) rfl (fun K hK => ?_) AllReadyH.nil
      go_simp
      go_at_call 32
      (with_reducible refine (write_any B b l0 (bs (dig n0)) w1 (HW.out.below HB1.out) (by have := HLL.out; omega) (by rw [bl_bs]; have := dig_len n0; omega) (Nat.le_trans (Nat.le_trans HB.out HBw.out.size) HB1.out.size)).mono ?_)
      rintro e w2 ⟨rfl, hi2, hb2, hf2⟩
      have HW2 := Lib.hid hi2
      have HB2 := Lib.hid ((HBw.out.trans (HB1.out.mono (Nat.le_trans HB.out HBw.out.size))).trans hb2)
      have HF2 := Lib.hid ((HF.out.trans (Fw.below HB1.out)).trans hf2)
      clear hi2 hb2 hf2
      go_wp2_with fail
      refine hK.out _ _ ?_ (fun hHeld => ?_)
      focus (exact trivial)
      clear hK K
      (try simp only [Act.put, List.setIfInBounds_toArray, List.set_cons_zero, List.set_cons_succ])
      refine wpAnyH_done (by kernel_rfl) ?_ _
      clear HIt
      have hl1 : (l0 ++ bl (bs (dig n0))).length ≤ 920000 := by rw [List.length_append, bl_bs]; have := dig_len n0; have := HLL.out; omega
      have HWr2 := Lib.hid (write_any B b _ ⟨#[58]⟩ w2 HW2.out (by omega) (by decide) (Nat.le_trans HB.out HB2.out.size))
      go_wp2_with fail
      (with_reducible refine HWr2.out.mono ?_)
      rintro e w3 ⟨rfl, hi3, hb3, hf3⟩
      have HW3 := Lib.hid hi3
      have HB3 := Lib.hid (HB2.out.trans hb3)
      have HF3 := Lib.hid (HF2.out.trans hf3)
      clear hi3 hb3 hf3 HWr2 HW2 HB2 HF2
      have HWr3 := Lib.hid (write_any B b _ s w3 HW3.out (by rw [List.length_append, show (bl (⟨#[58]⟩ : ByteArray)).length = 1 from rfl]; omega) (by have := HS.out; omega) (Nat.le_trans HB.out HB3.out.size))
      go_wp2_with fail
      (with_reducible refine HWr3.out.mono ?_)
      rintro e w4 ⟨rfl, hi4, hb4, hf4⟩
      go_wp2_with fail
      go_roundw
      case rel =>
        refine ⟨k + 1, by omega, by go_num, ?_, HB3.out.trans hb4, HF3.out.trans hf4⟩
        show WrI _ _ _ _
        rw [HTK.out]
        have e1 : l0 ++ bl (bs (dig n0)) ++ bl (⟨#[58]⟩ : ByteArray) ++ bl s = l ++ (wordsL (ls.take k) ++ wordL (bl s)) := by
          rw [← List.append_assoc l, HL0.out]
          unfold wordL
          rw [bl_bs, show n0 = (bl s).length from by rw [HN0.out, size_bl]]
          show l0 ++ dig (bl s).length ++ [58] ++ bl s = l0 ++ (dig (bl s).length ++ 58 :: bl s)
          simp
        rw [← e1]
        exact hi4
      case measure => simp [intOf]; omega
    · have ck : decide ((k : Int) < (ls.length : Int)) = false := by rw [decide_eq_false_iff_not]; omega
      have hkl : k = ls.length := by omega
      subst hkl
      rw [List.take_length] at HW
      go_wp2_with fail
      go_returns
      exact ⟨rfl, HW.out, HBw.out, HF.out⟩
end Go.Proofs.YtpjaopcgoaannaaGreatDoor
