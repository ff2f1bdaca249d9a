/- node.reader: word, number, of. Written by gen_b7.py. -/
import Derived.Test.YtpjaopcgoaannaaGreatDoorB6
import Derived.Laws.Strings2
namespace Go.Proofs.YtpjaopcgoaannaaGreatDoor
open Go.RowKit Go.Lib
open Hb

/-- a reader with what is left -/
abbrev Rd (w : World) (R : Nat) (r : ByteArray) : Prop := RowI w R 59 1 [.string r]
theorem ex_from (l : List UInt8) (n : Nat) : (bs l).extract n (bs l).size = bs (l.drop n) := by
  apply ByteArray.ext
  apply Array.ext'
  have h : (bs l).size = l.length := by rw [size_bl]
  rw [h]
  rw [ByteArray.data_extract]
  show (l.toArray.extract n l.length).toList = _
  simp
  exact List.take_of_length_le (by rw [List.length_drop]; omega)
theorem ex_to (l : List UInt8) (n : Nat) : (bs l).extract 0 n = bs (l.take n) := by
  apply ByteArray.ext
  apply Array.ext'
  simp [ByteArray.data_extract]
theorem sl_fromN (l : List UInt8) (k : Nat) (h : k ≤ l.length) (W : World) : (Instr.slice 9 (.string (bs l)) (some (.int .i64 k)) none none).run Tryz.prog W = .ok (.string (bs (l.drop k))) W := by
  have h2 : (bs l).size = l.length := by rw [size_bl]
  rw [run_slice_string_from_if _ _ _ _ _ Tryz.underlying9, if_pos (by rw [h2]; omega), ← ex_from]
  rfl
theorem sl_toN (l : List UInt8) (k : Nat) (h : k ≤ l.length) (W : World) : (Instr.slice 9 (.string (bs l)) none (some (.int .i64 k)) none).run Tryz.prog W = .ok (.string (bs (l.take k))) W := by
  have h2 : (bs l).size = l.length := by rw [size_bl]
  rw [run_slice_string_to_if _ _ _ _ _ Tryz.underlying9, if_pos (by rw [h2]; omega), ← ex_to]
  rfl
theorem gdr {w : World} {n : Nat} : Below w.heap.size w (w.drewN n) := bdrewN (Below.refl _ w) n

set_option maxRecDepth 100000 in
set_option maxHeartbeats 8000000 in
theorem rword_any (R : Nat) (r : ByteArray) (w : World) (h : Rd w R r) (hs : r.size ≤ 9223372036854775806) :
    Calls Tryz.prog 34 #[.pointer (some ⟨R, 0, none⟩)] w (Told (wordR (bl r)) (fun x e w' => e = .returned (.string (bs x.1)) ∧ Rd w' R (bs x.2) ∧ w.grownBy w' (some R)) (fun w' => w.grownBy w' (some R))) := by
  have hcut := cut_byte r 58 w hs
  have hC := cutAt_C (bl r)
  have hle := cutAt_both 58 (bl r)
  have h0 := h.at 0 _ rfl
  have HR := Lib.hid h
  have HNo := Lib.hid must_no
  have HOk := Lib.hid must_ok
  have hrs := size_bl r
  unfold wordR
  rw [hC]
  change Calls Tryz.prog 53 #[.string r, .string ⟨#[58]⟩] w fun e w' => e = .returned (.tuple #[.string (bs (cutAt 58 (bl r)).1), .string (bs (cutAt 58 (bl r)).2.1), .bool (cutAt 58 (bl r)).2.2]) ∧ ∃ n, w' = w.drewN n at hcut
  generalize (cutAt 58 (bl r)).1 = hd at hcut hle
  generalize (cutAt 58 (bl r)).2.1 = tl at hcut hle
  generalize (cutAt 58 (bl r)).2.2 = fd at hcut
  have HCut := Lib.hid hcut
  clear h hcut hC
  cases fd with
  | false =>
    clear hle hrs
    go_enter Tryz.func34, Tryz.ntmps34
    go_wp2_with fail
    (with_reducible refine HCut.out.mono ?_)
    rintro e w1 ⟨rfl, k, rfl⟩
    go_wp2_with fail
    (with_reducible refine (HNo.out _).mono ?_)
    rintro e w2 ⟨rfl, hw⟩
    obtain rfl := hw.symm
    go_wp2_with fail
    exact ⟨rfl, rfl, gBelow gdr _⟩
  | true =>
    have hsm := fun W => small_any (bs hd) W (by rw [size_bl, bl_bs]; omega)
    rw [bl_bs] at hsm
    show Calls _ _ _ _ (Told (match smallR hd with | none => none | some n => if n ≤ tl.length then some (tl.take n, tl.drop n) else none) _ _)
    cases hsr : smallR hd with
    | none =>
      rw [hsr] at hsm
      have HSm := Lib.hid hsm
      clear hsm hsr hle hrs
      go_enter Tryz.func34, Tryz.ntmps34
      go_wp2_with fail
      (with_reducible refine HCut.out.mono ?_)
      rintro e w1 ⟨rfl, k, rfl⟩
      go_wp2_with fail
      (with_reducible refine (HOk.out _).mono ?_)
      rintro e w2 ⟨rfl, hw⟩
      obtain rfl := hw.symm
      go_wp2_with fail
      (with_reducible refine (HSm.out _).mono ?_)
      rintro e w3 ⟨rfl, hb3⟩
      go_wp2_with fail
      exact ⟨rfl, rfl, gBelow ((gdr (n := k)).trans (hb3.mono gdr.size)) _⟩
    | some n =>
      rw [hsr] at hsm
      have HSm := Lib.hid hsm
      have hn3 := (dig_small hsr).2
      have htl : (bs tl).size = tl.length := by rw [size_bl]
      clear hsm hsr
      by_cases hle2 : n ≤ tl.length
      · rw [show (match some n with | none => none | some n => if n ≤ tl.length then some (tl.take n, tl.drop n) else none) = some (tl.take n, tl.drop n) from if_pos hle2]
        have hfrom := sl_fromN tl n hle2
        have hto := sl_toN tl n hle2
        have hl2 : decide (n ≤ (bs tl).size) = true := by rw [decide_eq_true_eq, htl]; omega
        obtain ⟨x1, hx1⟩ : ∃ x1, x1 = bs (tl.drop n) := ⟨_, rfl⟩
        obtain ⟨x2, hx2⟩ : ∃ x2, x2 = bs (tl.take n) := ⟨_, rfl⟩
        rw [← hx1] at hfrom
        rw [← hx2] at hto
        have HX1 := Lib.hid hx1
        have HX2 := Lib.hid hx2
        clear hx1 hx2
        have HK := Lib.hid hle2
        clear hle hle2 htl hrs
        generalize bs tl = rest at HCut hfrom hto hl2
        go_enter Tryz.func34, Tryz.ntmps34
        go_wp2_with fail
        (with_reducible refine HCut.out.mono ?_)
        rintro e w1 ⟨rfl, k, rfl⟩
        go_wp2_with fail
        (with_reducible refine (HOk.out _).mono ?_)
        rintro e w2 ⟨rfl, hw⟩
        obtain rfl := hw.symm
        go_wp2_with fail
        (with_reducible refine (HSm.out _).mono ?_)
        rintro e w3 ⟨rfl, hb3⟩
        have HB3 := Lib.hid ((gdr (n := k)).trans (hb3.mono gdr.size))
        clear hb3
        go_wp2_with fail
        (with_reducible refine (HOk.out _).mono ?_)
        rintro e w4 ⟨rfl, hw⟩
        obtain rfl := hw.symm
        clear hw
        obtain ⟨w5, st5, hr5, hg5, _⟩ := run_store_one (P := Tryz.prog) (HR.out.below HB3.out) 9 0 (.string x1) (Tryz.sizeOf9 _) (by simp) rfl rfl
        have ST5 := Lib.hid st5
        have HR5 := Lib.hid hr5
        have HG5 := Lib.hid (gTrans (gBelow HB3.out (some R)) hg5)
        clear st5 hr5 hg5
        go_wp2_with (refine wpList_store_run _ rfl 9 _ _ rfl _ _ rfl rfl ST5.out ?_)
        go_returns
        exact ⟨by show _ = Ending.returned (.string (bs (tl.take n))); rw [← HX2.out]; rfl, by show Rd _ _ (bs (tl.drop n)); rw [← HX1.out]; exact HR5.out, HG5.out⟩
      · rw [show (match some n with | none => none | some n => if n ≤ tl.length then some (tl.take n, tl.drop n) else none) = none from if_neg hle2]
        have hl2 : decide (n ≤ (bs tl).size) = false := by rw [decide_eq_false_iff_not, htl]; omega
        clear hle hle2 htl hrs
        generalize bs tl = rest at HCut hl2
        go_enter Tryz.func34, Tryz.ntmps34
        go_wp2_with fail
        (with_reducible refine HCut.out.mono ?_)
        rintro e w1 ⟨rfl, k, rfl⟩
        go_wp2_with fail
        (with_reducible refine (HOk.out _).mono ?_)
        rintro e w2 ⟨rfl, hw⟩
        obtain rfl := hw.symm
        go_wp2_with fail
        (with_reducible refine (HSm.out _).mono ?_)
        rintro e w3 ⟨rfl, hb3⟩
        have HB3 := Lib.hid ((gdr (n := k)).trans (hb3.mono gdr.size))
        clear hb3
        go_wp2_with fail
        (with_reducible refine (HNo.out _).mono ?_)
        rintro e w4 ⟨rfl, hw⟩
        obtain rfl := hw.symm
        go_wp2_with fail
        exact ⟨rfl, rfl, gBelow HB3.out _⟩

/-- what is left has a size that may be -/
theorem wordR_le {r s t : List UInt8} (h : wordR r = some (s, t)) : t.length ≤ r.length ∧ s.length ≤ r.length := by
  obtain ⟨e, _⟩ := word_wordR h
  rw [e]
  unfold wordL
  simp only [List.length_append, List.length_cons]
  omega

set_option maxRecDepth 100000 in
set_option maxHeartbeats 8000000 in
theorem rnumber_any (R : Nat) (r : ByteArray) (most : Nat) (w : World) (h : Rd w R r) (hs : r.size ≤ 9223372036854775806) (hm : most ≤ 100000) :
    Calls Tryz.prog 36 #[.pointer (some ⟨R, 0, none⟩), .int .i64 most] w (Told (numR most (bl r)) (fun x e w' => e = .returned (.int .i64 x.1) ∧ Rd w' R (bs x.2) ∧ w.grownBy w' (some R)) (fun w' => w.grownBy w' (some R))) := by
  have hw := rword_any R r w h hs
  have HNo := Lib.hid must_no
  have HOk := Lib.hid must_ok
  unfold numR
  cases hwr : wordR (bl r) with
  | none =>
    rw [hwr] at hw
    have HW := Lib.hid hw
    clear hw hwr h
    go_enter Tryz.func36, Tryz.ntmps36
    go_wp2_with fail
    (with_reducible refine HW.out.mono ?_)
    rintro e w1 ⟨rfl, hg⟩
    go_wp2_with fail
    exact ⟨rfl, rfl, hg⟩
  | some x =>
    obtain ⟨s, t⟩ := x
    rw [hwr] at hw
    have HW := Lib.hid hw
    have hsm := fun W => small_any (bs s) W (by have := (wordR_le hwr).2; have := size_bl r; rw [size_bl, bl_bs]; omega)
    rw [bl_bs] at hsm
    clear hw hwr h
    show Calls _ _ _ _ (Told (match smallR s with | none => none | some n => if n ≤ most then some (n, t) else none) _ _)
    cases hsr : smallR s with
    | none =>
      rw [hsr] at hsm
      have HSm := Lib.hid hsm
      clear hsm hsr
      go_enter Tryz.func36, Tryz.ntmps36
      go_wp2_with fail
      (with_reducible refine HW.out.mono ?_)
      rintro e w1 ⟨rfl, hr1, hg1⟩
      go_wp2_with fail
      (with_reducible refine (HSm.out _).mono ?_)
      rintro e w3 ⟨rfl, hb3⟩
      go_wp2_with fail
      exact ⟨rfl, rfl, gTrans hg1 (gBelow hb3 _)⟩
    | some n =>
      rw [hsr] at hsm
      have HSm := Lib.hid hsm
      have hn3 := (dig_small hsr).2
      clear hsm hsr
      by_cases hle : n ≤ most
      · rw [show (match some n with | none => none | some n => if n ≤ most then some (n, t) else none) = some (n, t) from if_pos hle]
        have hl2 : decide (n ≤ most) = true := by rw [decide_eq_true_eq]; omega
        go_enter Tryz.func36, Tryz.ntmps36
        go_wp2_with fail
        (with_reducible refine HW.out.mono ?_)
        rintro e w1 ⟨rfl, hr1, hg1⟩
        have HR1 := Lib.hid hr1
        have HG1 := Lib.hid hg1
        clear hr1 hg1
        go_wp2_with fail
        (with_reducible refine (HSm.out _).mono ?_)
        rintro e w3 ⟨rfl, hb3⟩
        have HR3 := Lib.hid (HR1.out.below hb3)
        have HG3 := Lib.hid (gTrans HG1.out (gBelow hb3 (some R)))
        clear hb3
        go_wp2_with fail
        (with_reducible refine (HOk.out _).mono ?_)
        rintro e w4 ⟨rfl, hw⟩
        obtain rfl := hw.symm
        go_wp2_with fail
        go_returns
        exact ⟨rfl, HR3.out, HG3.out⟩
      · rw [show (match some n with | none => none | some n => if n ≤ most then some (n, t) else none) = none from if_neg hle]
        have hl2 : decide (n ≤ most) = false := by rw [decide_eq_false_iff_not]; omega
        go_enter Tryz.func36, Tryz.ntmps36
        go_wp2_with fail
        (with_reducible refine HW.out.mono ?_)
        rintro e w1 ⟨rfl, hr1, hg1⟩
        have HG1 := Lib.hid hg1
        clear hr1 hg1
        go_wp2_with fail
        (with_reducible refine (HSm.out _).mono ?_)
        rintro e w3 ⟨rfl, hb3⟩
        have HG3 := Lib.hid (gTrans HG1.out (gBelow hb3 (some R)))
        clear hb3
        go_wp2_with fail
        (with_reducible refine (HNo.out _).mono ?_)
        rintro e w4 ⟨rfl, hw⟩
        obtain rfl := hw.symm
        go_wp2_with fail
        exact ⟨rfl, rfl, HG3.out⟩

theorem rnumber_k (R : Nat) (r : ByteArray) (most : Nat) (mi : Int) (hmi : (most : Int) = mi) (w : World) (h : Rd w R r) (hs : r.size ≤ 9223372036854775806) (hm : most ≤ 100000) :
    Calls Tryz.prog 36 #[.pointer (some ⟨R, 0, none⟩), .int .i64 mi] w (Told (numR most (bl r)) (fun x e w' => e = .returned (.int .i64 x.1) ∧ Rd w' R (bs x.2) ∧ w.grownBy w' (some R)) (fun w' => w.grownBy w' (some R))) := by
  subst hmi
  exact rnumber_any R r most w h hs hm
theorem eq_bytes (s : List UInt8) (y : UInt8) : ((bs s).toList == [y]) = (s == [y]) := by rw [ByteArray.toList_eq]
set_option maxRecDepth 100000 in
set_option maxHeartbeats 8000000 in
theorem rof_any (R : Nat) (r : ByteArray) (y n : UInt8) (w : World) (h : Rd w R r) (hs : r.size ≤ 9223372036854775806) :
    Calls Tryz.prog 35 #[.pointer (some ⟨R, 0, none⟩), .string ⟨#[y]⟩, .string ⟨#[n]⟩] w (Told (ofR y n (bl r)) (fun x e w' => e = .returned (.bool x.1) ∧ Rd w' R (bs x.2) ∧ w.grownBy w' (some R)) (fun w' => w.grownBy w' (some R))) := by
  have hw := rword_any R r w h hs
  have HNo := Lib.hid must_no
  have HOk := Lib.hid must_ok
  unfold ofR
  cases hwr : wordR (bl r) with
  | none =>
    rw [hwr] at hw
    have HW := Lib.hid hw
    clear hw hwr h
    go_enter Tryz.func35, Tryz.ntmps35
    go_wp2_with fail
    (with_reducible refine HW.out.mono ?_)
    rintro e w1 ⟨rfl, hg⟩
    go_wp2_with fail
    exact ⟨rfl, rfl, hg⟩
  | some x =>
    obtain ⟨s, t⟩ := x
    rw [hwr] at hw
    have HW := Lib.hid hw
    clear hw hwr h
    show Calls _ _ _ _ (Told (if (s == [y] || s == [n]) = true then some (s == [y], t) else none) _ _)
    have e1 := eq_bytes s y
    have e2 := eq_bytes s n
    generalize bs s = sv at *
    cases h1 : (s == [y]) with
    | true =>
      rw [h1] at e1
      go_enter Tryz.func35, Tryz.ntmps35
      go_wp2_with fail
      (with_reducible refine HW.out.mono ?_)
      rintro e w1 ⟨rfl, hr1, hg1⟩
      have HR1 := Lib.hid hr1
      have HG1 := Lib.hid hg1
      clear hr1 hg1
      go_wp2_with fail
      (with_reducible refine (HOk.out _).mono ?_)
      rintro e w4 ⟨rfl, hw⟩
      obtain rfl := hw.symm
      go_wp2_with fail
      go_returns
      exact ⟨rfl, HR1.out, HG1.out⟩
    | false =>
      rw [h1] at e1
      cases h2 : (s == [n]) with
      | true =>
        rw [h2] at e2
        go_enter Tryz.func35, Tryz.ntmps35
        go_wp2_with fail
        (with_reducible refine HW.out.mono ?_)
        rintro e w1 ⟨rfl, hr1, hg1⟩
        have HR1 := Lib.hid hr1
        have HG1 := Lib.hid hg1
        clear hr1 hg1
        go_wp2_with fail
        (with_reducible refine (HOk.out _).mono ?_)
        rintro e w4 ⟨rfl, hw⟩
        obtain rfl := hw.symm
        go_wp2_with fail
        go_returns
        exact ⟨rfl, HR1.out, HG1.out⟩
      | false =>
        rw [h2] at e2
        go_enter Tryz.func35, Tryz.ntmps35
        go_wp2_with fail
        (with_reducible refine HW.out.mono ?_)
        rintro e w1 ⟨rfl, hr1, hg1⟩
        have HG1 := Lib.hid hg1
        clear hr1 hg1
        go_wp2_with fail
        (with_reducible refine (HNo.out _).mono ?_)
        rintro e w4 ⟨rfl, hw⟩
        obtain rfl := hw.symm
        go_wp2_with fail
        exact ⟨rfl, rfl, HG1.out⟩
end Go.Proofs.YtpjaopcgoaannaaGreatDoor
