/- node.reader.read. Written by gen_b8.py. -/
import Derived.Test.YtpjaopcgoaannaaGreatDoorB7
import Derived.Test.YtpjaopcgoaannaaGreatDoorD1
import Derived.Test.YtpjaopcgoaannaaGreatDoorN31
namespace Go.Proofs.YtpjaopcgoaannaaGreatDoor
open Go.RowKit Go.Lib
open Hb

def bindO {α β : Type} (o : Option α) (f : α → Option β) : Option β := match o with | none => none | some a => f a
def fin (p : Preds) (n : PNode) (r : List UInt8) : Option PNode := if r.isEmpty && rightN p n then some n else none
theorem affR_b (r : List UInt8) : affR r = bindO (wordR r) fun x => bindO (numR 5 x.2) fun k => some (⟨bs x.1, k.1⟩, k.2) := by
  unfold affR
  rcases wordR r with _ | ⟨s, t⟩
  · simp [bindO]
  rcases h2 : numR 5 t with _ | ⟨k, u⟩ <;> simp [bindO, h2]
theorem subR_b (r : List UInt8) : subR r = bindO (wordR r) fun x => bindO (ofR 112 115 x.2) fun b => bindO (numR 255 b.2) fun k => some (⟨bs x.1, b.1, k.1⟩, k.2) := by
  unfold subR
  rcases wordR r with _ | ⟨s, t⟩
  · simp [bindO]
  rcases h2 : ofR 112 115 t with _ | ⟨b, u⟩
  · simp [bindO, h2]
  rcases h3 : numR 255 u with _ | ⟨k, u⟩ <;> simp [bindO, h2, h3]
theorem itemR_b (r : List UInt8) : itemR r = bindO (wordR r) fun x => bindO (wordR x.2) fun b => bindO (wordR b.2) fun k => some (⟨bs x.1, bs b.1, bs k.1⟩, k.2) := by
  unfold itemR
  rcases wordR r with _ | ⟨s, t⟩
  · simp [bindO]
  rcases h2 : wordR t with _ | ⟨b, u⟩
  · simp [bindO, h2]
  rcases h3 : wordR u with _ | ⟨k, u⟩ <;> simp [bindO, h2, h3]
theorem manyR_b {α : Type} (f : List UInt8 → Option (α × List UInt8)) (k : Nat) (acc : List α) (r : List UInt8) : manyR f (k + 1) acc r = bindO (f r) fun a => manyR f k (acc ++ [a.1]) a.2 := by
  rw [manyR]
  cases f r with
  | none => rfl
  | some a => rfl
theorem rowR_b {α : Type} (most : Nat) (f : List UInt8 → Option (α × List UInt8)) (r : List UInt8) : rowR most f r = bindO (numR most r) fun k => manyR f k.1 [] k.2 := by
  unfold rowR
  cases numR most r with
  | none => rfl
  | some a => rfl
theorem headR_b (r : List UInt8) : headR r = bindO (wordR r) fun x => bindO (ofR 99 108 x.2) fun c => bindO (numR 2 c.2) fun ac => bindO (numR 8 ac.2) fun mx => bindO (wordR mx.2) fun pa => some (⟨bs x.1, c.1, ac.1, mx.1, [], [], [], bs pa.1⟩, pa.2) := by
  unfold headR
  rcases wordR r with _ | ⟨s, t⟩
  · simp [bindO]
  rcases h2 : ofR 99 108 t with _ | ⟨b, t2⟩
  · simp [bindO, h2]
  rcases h3 : numR 2 t2 with _ | ⟨k, t3⟩
  · simp [bindO, h2, h3]
  rcases h4 : numR 8 t3 with _ | ⟨m, t4⟩
  · simp [bindO, h2, h3, h4]
  rcases h5 : wordR t4 with _ | ⟨p, t5⟩ <;> simp [bindO, h2, h3, h4, h5]
theorem bind_assoc {α β γ : Type} (o : Option α) (f : α → Option β) (g : β → Option γ) : bindO (bindO o f) g = bindO o fun a => bindO (f a) g := by cases o <;> rfl
theorem bind_some {α β : Type} (a : α) (f : α → Option β) : bindO (some a) f = f a := rfl
theorem readR_b (r : List UInt8) : readR r = bindO (headR r) fun n => bindO (rowR 16 affR n.2) fun a => bindO (rowR 16 subR a.2) fun s => bindO (rowR 8 itemR s.2) fun i => some ({ n.1 with affs := a.1, subs := s.1, items := i.1 }, i.2) := by
  unfold readR
  rcases headR r with _ | ⟨n, t⟩
  · simp [bindO]
  rcases h2 : rowR 16 affR t with _ | ⟨b, t2⟩
  · simp [bindO, h2]
  rcases h3 : rowR 16 subR t2 with _ | ⟨k, t3⟩
  · simp [bindO, h2, h3]
  rcases h4 : rowR 8 itemR t3 with _ | ⟨m, t4⟩ <;> simp [bindO, h2, h3, h4]
theorem decR_b (p : Preds) (s : List UInt8) : decR p s = bindO (wordR s) fun x => bindO (ofR 99 108 x.2) fun c => bindO (numR 2 c.2) fun ac => bindO (numR 8 ac.2) fun mx => bindO (wordR mx.2) fun pa => bindO (numR 16 pa.2) fun ka => bindO (manyR affR ka.1 [] ka.2) fun la => bindO (numR 16 la.2) fun ks => bindO (manyR subR ks.1 [] ks.2) fun ls => bindO (numR 8 ls.2) fun ki => bindO (manyR itemR ki.1 [] ki.2) fun li => fin p ⟨bs x.1, c.1, ac.1, mx.1, la.1, ls.1, li.1, bs pa.1⟩ li.2 := by
  have e : decR p s = bindO (readR s) fun n => fin p n.1 n.2 := by
    unfold decR
    cases readR s with
    | none => rfl
    | some x => rfl
  rw [e, readR_b, headR_b]
  simp only [bind_assoc, rowR_b, bind_some]
theorem gOut {w w1 w2 : World} {r r2 : Option Nat} (h : w.grownBy w1 r) (k : w1.grownBy w2 r2) (hr : ∀ q, r2 = some q → w.heap.size ≤ q) : w.grownBy w2 r :=
  ⟨k.os.trans h.os, k.tape.trans h.tape, k.output.trans h.output, Nat.le_trans h.size k.size, fun i hi hn => (k.block i (Nat.lt_of_lt_of_le hi h.size) (fun e => by have := hr i e.symm; omega)).trans (h.block i hi hn)⟩
theorem gOut1 {w w1 w2 : World} {r : Option Nat} {A : Nat} (h : w.grownBy w1 r) (k : w1.grownBy w2 (some A)) (hr : w.heap.size ≤ A) : w.grownBy w2 r := gOut h k (fun q e => by cases e; exact hr)
/-- sizes that may be -/
abbrev Fit (l : List UInt8) : Prop := l.length ≤ 9223372036854775806
theorem word_fit {r s t : List UInt8} (h : wordR r = some (s, t)) (hf : Fit r) : Fit t ∧ s.length < 1000 := ⟨Nat.le_trans (wordR_le h).1 hf, (word_wordR h).2⟩
theorem num_fit {r t : List UInt8} {m n : Nat} (h : numR m r = some (n, t)) (hf : Fit r) : Fit t ∧ n ≤ m := by
  obtain ⟨e, h2⟩ := num_numR h
  refine ⟨Nat.le_trans ?_ hf, h2⟩
  rw [e, List.length_append]
  omega
theorem of_fit {r t : List UInt8} {y n : UInt8} {b : Bool} (h : ofR y n r = some (b, t)) (hf : Fit r) : Fit t := by
  have e := of_ofR h
  refine Nat.le_trans ?_ hf
  rw [e, List.length_append]
  omega
theorem fit_bs {l : List UInt8} (h : Fit l) : (bs l).size ≤ 9223372036854775806 := by rw [size_bl]; exact h
theorem of_lt {s : List UInt8} (h : s.length < 1000) : Sm (bs s) := by show (bs s).size ≤ _; rw [size_bl, bl_bs]; omega

set_option maxRecDepth 100000 in
set_option maxHeartbeats 16000000 in
theorem read_any (R : Nat) (r : ByteArray) (w : World) (h : Rd w R r) (hs : r.size ≤ 9223372036854775806) :
    Calls Tryz.prog 15 #[.pointer (some ⟨R, 0, none⟩)] w (Told (decR pr (bl r)) (fun n e w' => ∃ v, e = .returned v ∧ NodeV w' v n ∧ Bd n ∧ 0 ≤ n.access ∧ w.grownBy w' (some R)) (fun w' => w.grownBy w' (some R))) := by
  obtain ⟨w0, hw0, hb0, hr0, hs0⟩ := one w 27 [.string ⟨#[]⟩, .bool false, .int .u8 0, .int .i64 0, .slice none 0 0, .slice none 0 0, .slice none 0 0, .string ⟨#[]⟩]
  obtain ⟨t0, ht0⟩ : ∃ t0, t0 = bl r := ⟨_, rfl⟩
  have hx0 := decR_b pr t0
  rw [← ht0]
  have hd0 : Rd w0 R (bs t0) := by rw [ht0, bs_bl]; exact h.below hb0
  have HX0 := Lib.hid hx0
  have HT0 : Hid (Fit t0) := by show t0.length ≤ _; rw [ht0, ← size_bl]; exact hs
  have HD0 := Lib.hid hd0
  have HA0 := Lib.hid hr0
  have HG0 := Lib.hid (gBelow hb0 (some R))
  have HNE := Lib.hid (show w.heap.size ≠ R from fun e => by have := h.lt; omega)
  have HW := Lib.hid hw0
  have mixed : Tryz.prog.follows .mixedOrders = true := by kernel_rfl
  clear hx0 hd0 hw0 hb0 hr0 hs0 h hs ht0
  go_enter Tryz.func15, Tryz.ntmps15
  go_upto_region 1 with fail
  rw [HW.out]
  clear HW
  have hc1 := rword_any R (bs t0) w0 HD0.out (fit_bs HT0.out)
  cases ho1 : wordR t0 with
  | none =>
    rw [bl_bs, ho1] at hc1
    have HN : Hid (decR pr t0 = none) := by show _ = _; rw [HX0.out, ho1]; rfl
    have HC := Lib.hid hc1
    clear hc1 ho1
    go_wp2_with fail
    (with_reducible refine HC.out.mono ?_)
    rintro e wz ⟨rfl, hg⟩
    go_wp2_with fail
    exact ⟨rfl, by rw [HN.out]; exact ⟨rfl, gTrans HG0.out hg⟩⟩
  | some x1 =>
    obtain ⟨nm, t1⟩ := x1
    rw [bl_bs, ho1] at hc1
    have HC := Lib.hid hc1
    have hx := HX0.out
    rw [ho1, bind_some] at hx
    simp only [] at hx
    have HX1 := Lib.hid hx
    obtain ⟨hf, hlt⟩ := word_fit ho1 HT0.out
    have HT1 := Lib.hid hf
    have HS1 := Lib.hid (of_lt hlt)
    clear hf hlt
    clear hc1 ho1 hx HX0
    go_wp2_with fail
    (with_reducible refine HC.out.mono ?_)
    rintro e w1 ⟨rfl, hrd, hg⟩
    have HD1 := Lib.hid hrd
    have HG1 := Lib.hid (gTrans HG0.out hg)
    have HA1 := Lib.hid (HA0.out.gone hg HNE.out)
    clear hrd hg HC HD0 HG0 HA0
    have hc2 := rof_any R (bs t1) 99 108 w1 HD1.out (fit_bs HT1.out)
    cases ho2 : ofR 99 108 t1 with
    | none =>
      rw [bl_bs, ho2] at hc2
      have HN : Hid (decR pr t0 = none) := by show _ = _; rw [HX1.out, ho2]; rfl
      have HC := Lib.hid hc2
      clear hc2 ho2
      go_wp2_with fail
      (with_reducible refine HC.out.mono ?_)
      rintro e wz ⟨rfl, hg⟩
      go_wp2_with fail
      exact ⟨rfl, by rw [HN.out]; exact ⟨rfl, gTrans HG1.out hg⟩⟩
    | some x2 =>
      obtain ⟨cl, t2⟩ := x2
      rw [bl_bs, ho2] at hc2
      have HC := Lib.hid hc2
      have hx := HX1.out
      rw [ho2, bind_some] at hx
      simp only [] at hx
      have HX2 := Lib.hid hx
      have HT2 := Lib.hid (of_fit ho2 HT1.out)
      clear hc2 ho2 hx HX1
      go_wp2_with fail
      (with_reducible refine HC.out.mono ?_)
      rintro e w2 ⟨rfl, hrd, hg⟩
      have HD2 := Lib.hid hrd
      have HG2 := Lib.hid (gTrans HG1.out hg)
      have HA2 := Lib.hid (HA1.out.gone hg HNE.out)
      clear hrd hg HC HD1 HG1 HA1
      obtain ⟨w3, st3, hr3, hg3, _⟩ := run_store_one (P := Tryz.prog) HA2.out 9 0 (.string (bs nm)) (Tryz.sizeOf9 _) (by simp) rfl rfl
      have ST3 := Lib.hid st3
      have HA3 := Lib.hid hr3
      have HD3 := Lib.hid (HD2.out.gone hg3 (Ne.symm HNE.out))
      have HG3 := Lib.hid (gOut1 HG2.out hg3 (Nat.le_refl _))
      have HX3 := HX2
      have HT3 := HT2
      clear st3 hr3 hg3 HX2 HT2 HA2 HD2 HG2
      obtain ⟨w4, st4, hr4, hg4, _⟩ := run_store_one (P := Tryz.prog) HA3.out 4 1 (.bool cl) (Tryz.sizeOf4 _) (by simp) rfl rfl
      have ST4 := Lib.hid st4
      have HA4 := Lib.hid hr4
      have HD4 := Lib.hid (HD3.out.gone hg4 (Ne.symm HNE.out))
      have HG4 := Lib.hid (gOut1 HG3.out hg4 (Nat.le_refl _))
      have HX4 := HX3
      have HT4 := HT3
      clear st4 hr4 hg4 HX3 HT3 HA3 HD3 HG3
      have hc5 := rnumber_k R (bs t2) 2 2 rfl w4 HD4.out (fit_bs HT4.out) (by decide)
      cases ho5 : numR 2 t2 with
      | none =>
        rw [bl_bs, ho5] at hc5
        have HN : Hid (decR pr t0 = none) := by show _ = _; rw [HX4.out, ho5]; rfl
        have HC := Lib.hid hc5
        clear hc5 ho5
        go_wp2_with (first
          | (refine wpList_store_run _ rfl 9 _ _ rfl _ _ rfl rfl ST3.out ?_)
          | (refine wpList_store_run _ rfl 4 _ _ rfl _ _ rfl rfl ST4.out ?_))
        (with_reducible refine HC.out.mono ?_)
        rintro e wz ⟨rfl, hg⟩
        go_wp2_with fail
        exact ⟨rfl, by rw [HN.out]; exact ⟨rfl, gTrans HG4.out hg⟩⟩
      | some x5 =>
        obtain ⟨ac, t3⟩ := x5
        rw [bl_bs, ho5] at hc5
        have HC := Lib.hid hc5
        have hx := HX4.out
        rw [ho5, bind_some] at hx
        simp only [] at hx
        have HX5 := Lib.hid hx
        obtain ⟨hf, hle⟩ := num_fit ho5 HT4.out
        have HT5 := Lib.hid hf
        have HL5 := Lib.hid hle
        clear hf hle
        have hac3 : ac ≤ 2 := HL5.out
        clear hc5 ho5 hx HX4
        go_wp2_with (first
          | (refine wpList_store_run _ rfl 9 _ _ rfl _ _ rfl rfl ST3.out ?_)
          | (refine wpList_store_run _ rfl 4 _ _ rfl _ _ rfl rfl ST4.out ?_))
        (with_reducible refine HC.out.mono ?_)
        rintro e w5 ⟨rfl, hrd, hg⟩
        have HD5 := Lib.hid hrd
        have HG5 := Lib.hid (gTrans HG4.out hg)
        have HA5 := Lib.hid (HA4.out.gone hg HNE.out)
        clear hrd hg HC HD4 HG4 HA4
        have hc6 := rnumber_k R (bs t3) 8 8 rfl w5 HD5.out (fit_bs HT5.out) (by decide)
        cases ho6 : numR 8 t3 with
        | none =>
          rw [bl_bs, ho6] at hc6
          have HN : Hid (decR pr t0 = none) := by show _ = _; rw [HX5.out, ho6]; rfl
          have HC := Lib.hid hc6
          clear hc6 ho6
          go_wp2_with fail
          (with_reducible refine HC.out.mono ?_)
          rintro e wz ⟨rfl, hg⟩
          go_wp2_with fail
          exact ⟨rfl, by rw [HN.out]; exact ⟨rfl, gTrans HG5.out hg⟩⟩
        | some x6 =>
          obtain ⟨mx, t4⟩ := x6
          rw [bl_bs, ho6] at hc6
          have HC := Lib.hid hc6
          have hx := HX5.out
          rw [ho6, bind_some] at hx
          simp only [] at hx
          have HX6 := Lib.hid hx
          obtain ⟨hf, hle⟩ := num_fit ho6 HT5.out
          have HT6 := Lib.hid hf
          have HL6 := Lib.hid hle
          clear hf hle
          have hmx8 : mx ≤ 8 := HL6.out
          clear hc6 ho6 hx HX5
          go_wp2_with fail
          (with_reducible refine HC.out.mono ?_)
          rintro e w6 ⟨rfl, hrd, hg⟩
          have HD6 := Lib.hid hrd
          have HG6 := Lib.hid (gTrans HG5.out hg)
          have HA6 := Lib.hid (HA5.out.gone hg HNE.out)
          clear hrd hg HC HD5 HG5 HA5
          have hc7 := rword_any R (bs t4) w6 HD6.out (fit_bs HT6.out)
          cases ho7 : wordR t4 with
          | none =>
            rw [bl_bs, ho7] at hc7
            have HN : Hid (decR pr t0 = none) := by show _ = _; rw [HX6.out, ho7]; rfl
            have HC := Lib.hid hc7
            clear hc7 ho7
            go_wp2_with fail
            (with_reducible refine HC.out.mono ?_)
            rintro e wz ⟨rfl, hg⟩
            go_wp2_with fail
            exact ⟨rfl, by rw [HN.out]; exact ⟨rfl, gTrans HG6.out hg⟩⟩
          | some x7 =>
            obtain ⟨pa, t5⟩ := x7
            rw [bl_bs, ho7] at hc7
            have HC := Lib.hid hc7
            have hx := HX6.out
            rw [ho7, bind_some] at hx
            simp only [] at hx
            have HX7 := Lib.hid hx
            obtain ⟨hf, hlt⟩ := word_fit ho7 HT6.out
            have HT7 := Lib.hid hf
            have HS7 := Lib.hid (of_lt hlt)
            clear hf hlt
            clear hc7 ho7 hx HX6
            go_wp2_with fail
            (with_reducible refine HC.out.mono ?_)
            rintro e w7 ⟨rfl, hrd, hg⟩
            have HD7 := Lib.hid hrd
            have HG7 := Lib.hid (gTrans HG6.out hg)
            have HA7 := Lib.hid (HA6.out.gone hg HNE.out)
            clear hrd hg HC HD6 HG6 HA6
            obtain ⟨w8, st8, hr8, hg8, _⟩ := run_store_one (P := Tryz.prog) HA7.out 22 2 (.int .u8 (ac : Int)) (Tryz.sizeOf22 _) (by simp) rfl rfl
            have ST8 := Lib.hid st8
            have HA8 := Lib.hid hr8
            have HD8 := Lib.hid (HD7.out.gone hg8 (Ne.symm HNE.out))
            have HG8 := Lib.hid (gOut1 HG7.out hg8 (Nat.le_refl _))
            have HX8 := HX7
            have HT8 := HT7
            clear st8 hr8 hg8 HX7 HT7 HA7 HD7 HG7
            obtain ⟨w9, st9, hr9, hg9, _⟩ := run_store_one (P := Tryz.prog) HA8.out 3 3 (.int .i64 (mx : Int)) (Tryz.sizeOf3 _) (by simp) rfl rfl
            have ST9 := Lib.hid st9
            have HA9 := Lib.hid hr9
            have HD9 := Lib.hid (HD8.out.gone hg9 (Ne.symm HNE.out))
            have HG9 := Lib.hid (gOut1 HG8.out hg9 (Nat.le_refl _))
            have HX9 := HX8
            have HT9 := HT8
            clear st9 hr9 hg9 HX8 HT8 HA8 HD8 HG8
            obtain ⟨w10, st10, hr10, hg10, _⟩ := run_store_one (P := Tryz.prog) HA9.out 9 7 (.string (bs pa)) (Tryz.sizeOf9 _) (by simp) rfl rfl
            have ST10 := Lib.hid st10
            have HA10 := Lib.hid hr10
            have HD10 := Lib.hid (HD9.out.gone hg10 (Ne.symm HNE.out))
            have HG10 := Lib.hid (gOut1 HG9.out hg10 (Nat.le_refl _))
            have HX10 := HX9
            have HT10 := HT9
            clear st10 hr10 hg10 HX9 HT9 HA9 HD9 HG9
            have hc11 := rnumber_k R (bs t5) 16 16 rfl w10 HD10.out (fit_bs HT10.out) (by decide)
            cases ho11 : numR 16 t5 with
            | none =>
              rw [bl_bs, ho11] at hc11
              have HN : Hid (decR pr t0 = none) := by show _ = _; rw [HX10.out, ho11]; rfl
              have HC := Lib.hid hc11
              clear hc11 ho11
              go_wp2_with (first
                | (refine wpList_store_run _ rfl 22 _ _ rfl _ _ rfl rfl ST8.out ?_)
                | (refine wpList_store_run _ rfl 3 _ _ rfl _ _ rfl rfl ST9.out ?_)
                | (refine wpList_store_run _ rfl 9 _ _ rfl _ _ rfl rfl ST10.out ?_))
              (with_reducible refine HC.out.mono ?_)
              rintro e wz ⟨rfl, hg⟩
              go_wp2_with fail
              exact ⟨rfl, by rw [HN.out]; exact ⟨rfl, gTrans HG10.out hg⟩⟩
            | some x11 =>
              obtain ⟨kA, uA⟩ := x11
              rw [bl_bs, ho11] at hc11
              have HC := Lib.hid hc11
              have hx := HX10.out
              rw [ho11, bind_some] at hx
              simp only [] at hx
              have HX11 := Lib.hid hx
              obtain ⟨hf, hle⟩ := num_fit ho11 HT10.out
              have HT11 := Lib.hid hf
              have HL11 := Lib.hid hle
              clear hf hle
              have hkA : kA ≤ 16 := HL11.out
              clear hc11 ho11 hx HX10
              go_wp2_with (first
                | (refine wpList_store_run _ rfl 22 _ _ rfl _ _ rfl rfl ST8.out ?_)
                | (refine wpList_store_run _ rfl 3 _ _ rfl _ _ rfl rfl ST9.out ?_)
                | (refine wpList_store_run _ rfl 9 _ _ rfl _ _ rfl rfl ST10.out ?_))
              (with_reducible refine HC.out.mono ?_)
              rintro e w11 ⟨rfl, hrd, hg⟩
              have HD11 := Lib.hid hrd
              have HG11 := Lib.hid (gTrans HG10.out hg)
              have HA11 := Lib.hid (HA10.out.gone hg HNE.out)
              clear hrd hg HC HD10 HG10 HA10
              go_upto_region 4 with fail
              go_loopw [21] (fun iv W => ∃ (lA : List PAff) (aA : Option Addr) (cA : Nat) (t : List UInt8), lA.length ≤ kA ∧ iv = .int .i64 lA.length ∧ Hid (OwE PAff.enc 2 W w.heap.size 49 (.slice aA lA.length cA) lA) ∧ Hid (RowI W w.heap.size 27 8 [.string (bs nm), .bool cl, .int .u8 (ac : Int), .int .i64 (mx : Int), .slice aA lA.length cA, .slice none 0 0, .slice none 0 0, .string (bs pa)]) ∧ Hid (Rd W R (bs t)) ∧ Hid (Fit t) ∧ Hid (w.grownBy W (some R)) ∧ Hid (∀ x ∈ lA, Sm x.jid) ∧ Hid (manyR affR kA [] uA = manyR affR (kA - lA.length) lA t)) (fun iv _ => kA - (intOf iv).toNat)
              case atStart => exact ⟨[], none, 0, uA, Nat.zero_le _, rfl, World.ownsRow_nil _ _ _ _, HA11.out, HD11.out, HT11.out, HG11.out, fun _ h => (by cases h), rfl⟩
              case round =>
                obtain ⟨lA, aA, cA, t, hal, rfl, HO, HA, HD, HT, HG, HSm, HM⟩ := hrel
                have hm1 : lA.length ≤ 16 := Nat.le_trans hal hkA
                by_cases hlt : lA.length < kA
                · have ck : decide ((lA.length : Int) < (kA : Int)) = true := by rw [decide_eq_true_eq]; omega
                  have ck2 : decide (lA.length < kA) = true := decide_eq_true hlt
                  have hmm := HM.out
                  obtain ⟨m, hmk⟩ : ∃ m, kA - lA.length = m + 1 := ⟨kA - lA.length - 1, by omega⟩
                  rw [hmk, manyR_b, affR_b] at hmm
                  simp only [bind_assoc, bind_some] at hmm
                  have HMm := Lib.hid hmm
                  have HMK := Lib.hid hmk
                  clear hmm hmk
                  have c4 := HA.out.at 4 _ rfl
                  have hdr : Below wr.heap.size wr wr.drew := (Below.refl _ _).drew
                  have HDy0 := Lib.hid (HD.out.below hdr)
                  have HGy0 := Lib.hid (gTrans HG.out (gBelow hdr (some R)))
                  have HAy0 := Lib.hid (HA.out.below hdr)
                  have HOy0 := Lib.hid (HO.out.below hdr)
                  clear hdr
                  cases ho0 : wordR t with
                  | none =>
                    have HN : Hid (decR pr t0 = none) := by
                      show _ = _
                      rw [HX11.out, HMm.out, ho0]
                      rfl
                    have HOO0 := Lib.hid ho0
                    have hcc := rword_any R (bs t) wr.drew HDy0.out (fit_bs HT.out)
                    rw [bl_bs, HOO0.out] at hcc
                    have HC0 := Lib.hid hcc
                    clear hcc ho0
                    go_upto_region 5 with fail
                    refine wp_region_D (fun W => W.cell? ⟨w.heap.size, 4, none⟩ = some (.slice aA lA.length cA)) [9, 11] mixed c4 (fun hHeld => ?_)
                    first
                      | (refine wpAnyD_pure (i := 0) (oi := { dst := _, op := _, type := _, pos := _, after := _, guard := _ }) (v := _) rfl (by kernel_rfl) (by kernel_rfl) (by kernel_rfl) (fun _ _ _ h => h) (Or.inr ⟨by rfl, rfl⟩) hHeld (by decide) ?_; (try simp only [Act.put, List.setIfInBounds_toArray, List.set_cons_zero, List.set_cons_succ]))
                      | (refine wpAnyD_pure (i := 0) (oi := { dst := _, op := _, type := _, pos := _, after := _, guard := _ }) (v := ?_) rfl (by kernel_rfl) (by kernel_rfl) (by kernel_rfl) (fun _ _ _ h => h) (Or.inl ⟨by rfl, ?_⟩) hHeld (by decide) ?_; rotate_left; (focus (intro wS hSw; (try dsimp only at hSw); go_simp; (try with_reducible rfl); done)); (try simp only [Act.put, List.setIfInBounds_toArray, List.set_cons_zero, List.set_cons_succ]))
                    refine wpAnyD_take (i := 1) (oi := { dst := _, op := _, type := _, pos := _, after := _, guard := _ }) (v := ?_) rfl (by kernel_rfl) (by kernel_rfl) (by kernel_rfl) (fun _ _ _ h => h) (Or.inl ⟨by rfl, ?_⟩) hHeld (by kernel_rfl) ?_; rotate_left; (focus (intro wS hSw; (skip); go_simp; (try with_reducible rfl); done)); (try simp only [Act.put, List.setIfInBounds_toArray, List.set_cons_zero, List.set_cons_succ])
                    first
                      | (refine wpAnyD_pure (i := 2) (oi := { dst := _, op := _, type := _, pos := _, after := _, guard := _ }) (v := _) rfl (by kernel_rfl) (by kernel_rfl) (by kernel_rfl) (fun _ _ _ h => h) (Or.inr ⟨by rfl, rfl⟩) hHeld (by decide) ?_; (try simp only [Act.put, List.setIfInBounds_toArray, List.set_cons_zero, List.set_cons_succ]))
                      | (refine wpAnyD_pure (i := 2) (oi := { dst := _, op := _, type := _, pos := _, after := _, guard := _ }) (v := ?_) rfl (by kernel_rfl) (by kernel_rfl) (by kernel_rfl) (fun _ _ _ h => h) (Or.inl ⟨by rfl, ?_⟩) hHeld (by decide) ?_; rotate_left; (focus (intro wS hSw; (try dsimp only at hSw); go_simp; (try with_reducible rfl); done)); (try simp only [Act.put, List.setIfInBounds_toArray, List.set_cons_zero, List.set_cons_succ]))
                    first
                      | (refine wpAnyD_pure (i := 4) (oi := { dst := _, op := _, type := _, pos := _, after := _, guard := _ }) (v := _) rfl (by kernel_rfl) (by kernel_rfl) (by kernel_rfl) (fun _ _ _ h => h) (Or.inr ⟨by rfl, rfl⟩) hHeld (by decide) ?_; (try simp only [Act.put, List.setIfInBounds_toArray, List.set_cons_zero, List.set_cons_succ]))
                      | (refine wpAnyD_pure (i := 4) (oi := { dst := _, op := _, type := _, pos := _, after := _, guard := _ }) (v := ?_) rfl (by kernel_rfl) (by kernel_rfl) (by kernel_rfl) (fun _ _ _ h => h) (Or.inl ⟨by rfl, ?_⟩) hHeld (by decide) ?_; rotate_left; (focus (intro wS hSw; (try dsimp only at hSw); go_simp; (try with_reducible rfl); done)); (try simp only [Act.put, List.setIfInBounds_toArray, List.set_cons_zero, List.set_cons_succ]))
                    refine wpAnyD_ready (rs := [3]) (by kernel_rfl) (by simp) ?_
                    refine AllReadyD.cons (o := { dst := _, op := _, type := _, pos := _, after := _, guard := _ }) rfl (fun K hK => ?_) AllReadyD.nil
                    go_simp
                    (with_reducible refine HC0.out.mono ?_)
                    rintro e wz ⟨rfl, hg⟩
                    go_wp2_with fail
                    exact ⟨rfl, by rw [HN.out]; exact ⟨rfl, gTrans HGy0.out hg⟩⟩
                  | some xx =>
                    obtain ⟨xs, t1x⟩ := xx
                    have HOO0 := Lib.hid ho0
                    have hmm := HMm.out
                    rw [ho0, bind_some] at hmm
                    simp only [] at hmm
                    have HMm := Lib.hid hmm
                    obtain ⟨hf, hlt⟩ := word_fit ho0 HT.out
                    have HTt1 := Lib.hid hf
                    have HSt1 := Lib.hid (of_lt hlt)
                    clear hf hlt
                    clear hmm ho0
                    cases ho1 : numR 5 t1x with
                    | none =>
                      have HN : Hid (decR pr t0 = none) := by
                        show _ = _
                        rw [HX11.out, HMm.out, ho1]
                        rfl
                      have HOO1 := Lib.hid ho1
                      have hcc := rword_any R (bs t) wr.drew HDy0.out (fit_bs HT.out)
                      rw [bl_bs, HOO0.out] at hcc
                      have HC0 := Lib.hid hcc
                      clear hcc ho1
                      go_upto_region 5 with fail
                      refine wp_region_D (fun W => W.cell? ⟨w.heap.size, 4, none⟩ = some (.slice aA lA.length cA)) [9, 11] mixed c4 (fun hHeld => ?_)
                      first
                        | (refine wpAnyD_pure (i := 0) (oi := { dst := _, op := _, type := _, pos := _, after := _, guard := _ }) (v := _) rfl (by kernel_rfl) (by kernel_rfl) (by kernel_rfl) (fun _ _ _ h => h) (Or.inr ⟨by rfl, rfl⟩) hHeld (by decide) ?_; (try simp only [Act.put, List.setIfInBounds_toArray, List.set_cons_zero, List.set_cons_succ]))
                        | (refine wpAnyD_pure (i := 0) (oi := { dst := _, op := _, type := _, pos := _, after := _, guard := _ }) (v := ?_) rfl (by kernel_rfl) (by kernel_rfl) (by kernel_rfl) (fun _ _ _ h => h) (Or.inl ⟨by rfl, ?_⟩) hHeld (by decide) ?_; rotate_left; (focus (intro wS hSw; (try dsimp only at hSw); go_simp; (try with_reducible rfl); done)); (try simp only [Act.put, List.setIfInBounds_toArray, List.set_cons_zero, List.set_cons_succ]))
                      refine wpAnyD_take (i := 1) (oi := { dst := _, op := _, type := _, pos := _, after := _, guard := _ }) (v := ?_) rfl (by kernel_rfl) (by kernel_rfl) (by kernel_rfl) (fun _ _ _ h => h) (Or.inl ⟨by rfl, ?_⟩) hHeld (by kernel_rfl) ?_; rotate_left; (focus (intro wS hSw; (skip); go_simp; (try with_reducible rfl); done)); (try simp only [Act.put, List.setIfInBounds_toArray, List.set_cons_zero, List.set_cons_succ])
                      first
                        | (refine wpAnyD_pure (i := 2) (oi := { dst := _, op := _, type := _, pos := _, after := _, guard := _ }) (v := _) rfl (by kernel_rfl) (by kernel_rfl) (by kernel_rfl) (fun _ _ _ h => h) (Or.inr ⟨by rfl, rfl⟩) hHeld (by decide) ?_; (try simp only [Act.put, List.setIfInBounds_toArray, List.set_cons_zero, List.set_cons_succ]))
                        | (refine wpAnyD_pure (i := 2) (oi := { dst := _, op := _, type := _, pos := _, after := _, guard := _ }) (v := ?_) rfl (by kernel_rfl) (by kernel_rfl) (by kernel_rfl) (fun _ _ _ h => h) (Or.inl ⟨by rfl, ?_⟩) hHeld (by decide) ?_; rotate_left; (focus (intro wS hSw; (try dsimp only at hSw); go_simp; (try with_reducible rfl); done)); (try simp only [Act.put, List.setIfInBounds_toArray, List.set_cons_zero, List.set_cons_succ]))
                      first
                        | (refine wpAnyD_pure (i := 4) (oi := { dst := _, op := _, type := _, pos := _, after := _, guard := _ }) (v := _) rfl (by kernel_rfl) (by kernel_rfl) (by kernel_rfl) (fun _ _ _ h => h) (Or.inr ⟨by rfl, rfl⟩) hHeld (by decide) ?_; (try simp only [Act.put, List.setIfInBounds_toArray, List.set_cons_zero, List.set_cons_succ]))
                        | (refine wpAnyD_pure (i := 4) (oi := { dst := _, op := _, type := _, pos := _, after := _, guard := _ }) (v := ?_) rfl (by kernel_rfl) (by kernel_rfl) (by kernel_rfl) (fun _ _ _ h => h) (Or.inl ⟨by rfl, ?_⟩) hHeld (by decide) ?_; rotate_left; (focus (intro wS hSw; (try dsimp only at hSw); go_simp; (try with_reducible rfl); done)); (try simp only [Act.put, List.setIfInBounds_toArray, List.set_cons_zero, List.set_cons_succ]))
                      refine wpAnyD_ready (rs := [3]) (by kernel_rfl) (by simp) ?_
                      refine AllReadyD.cons (o := { dst := _, op := _, type := _, pos := _, after := _, guard := _ }) rfl (fun K hK => ?_) AllReadyD.nil
                      go_simp
                      (with_reducible refine HC0.out.mono ?_)
                      rintro e y1 ⟨rfl, hrd, hg⟩
                      have HDy1 := Lib.hid hrd
                      have HGy1 := Lib.hid (gTrans HGy0.out hg)
                      have HAy1 := Lib.hid (HAy0.out.gone hg HNE.out)
                      have HOy1 := Lib.hid (HOy0.out.gone hg (HOy0.out.ne HDy0.out (by decide)))
                      clear hrd hg
                      have hcc := rnumber_k R (bs t1x) 5 5 rfl y1 HDy1.out (fit_bs HTt1.out) (by decide)
                      rw [bl_bs, HOO1.out] at hcc
                      have HC1 := Lib.hid hcc
                      clear hcc
                      go_wp2_with fail
                      refine hK.out _ _ ?_ (fun hHeld => ?_)
                      focus (exact HAy1.out.at 4 _ rfl)
                      clear hK K
                      (try simp only [Act.put, List.setIfInBounds_toArray, List.set_cons_zero, List.set_cons_succ])
                      refine wpAnyD_ready (rs := [5]) (by kernel_rfl) (by simp) ?_
                      refine AllReadyD.cons (o := { dst := _, op := _, type := _, pos := _, after := _, guard := _ }) rfl (fun K hK => ?_) AllReadyD.nil
                      go_simp
                      (with_reducible refine HC1.out.mono ?_)
                      rintro e wz ⟨rfl, hg⟩
                      go_wp2_with fail
                      exact ⟨rfl, by rw [HN.out]; exact ⟨rfl, gTrans HGy1.out hg⟩⟩
                    | some xx =>
                      obtain ⟨xn, t2x⟩ := xx
                      have HOO1 := Lib.hid ho1
                      have hmm := HMm.out
                      rw [ho1, bind_some] at hmm
                      simp only [] at hmm
                      have HMm := Lib.hid hmm
                      obtain ⟨hf, hle⟩ := num_fit ho1 HTt1.out
                      have HTt2 := Lib.hid hf
                      clear hf
                      clear hmm ho1
                      have hwrap : IntKind.u8.wrap (xn : Int) = xn := by
                        have : xn = 0 ∨ xn = 1 ∨ xn = 2 ∨ xn = 3 ∨ xn = 4 ∨ xn = 5 := by omega
                        rcases this with rfl | rfl | rfl | rfl | rfl | rfl <;> rfl
                      have hcc := rword_any R (bs t) wr.drew HDy0.out (fit_bs HT.out)
                      rw [bl_bs, HOO0.out] at hcc
                      have HC0 := Lib.hid hcc
                      clear hcc
                      go_upto_region 5 with fail
                      refine wp_region_D (fun W => W.cell? ⟨w.heap.size, 4, none⟩ = some (.slice aA lA.length cA)) [9, 11] mixed c4 (fun hHeld => ?_)
                      first
                        | (refine wpAnyD_pure (i := 0) (oi := { dst := _, op := _, type := _, pos := _, after := _, guard := _ }) (v := _) rfl (by kernel_rfl) (by kernel_rfl) (by kernel_rfl) (fun _ _ _ h => h) (Or.inr ⟨by rfl, rfl⟩) hHeld (by decide) ?_; (try simp only [Act.put, List.setIfInBounds_toArray, List.set_cons_zero, List.set_cons_succ]))
                        | (refine wpAnyD_pure (i := 0) (oi := { dst := _, op := _, type := _, pos := _, after := _, guard := _ }) (v := ?_) rfl (by kernel_rfl) (by kernel_rfl) (by kernel_rfl) (fun _ _ _ h => h) (Or.inl ⟨by rfl, ?_⟩) hHeld (by decide) ?_; rotate_left; (focus (intro wS hSw; (try dsimp only at hSw); go_simp; (try with_reducible rfl); done)); (try simp only [Act.put, List.setIfInBounds_toArray, List.set_cons_zero, List.set_cons_succ]))
                      refine wpAnyD_take (i := 1) (oi := { dst := _, op := _, type := _, pos := _, after := _, guard := _ }) (v := ?_) rfl (by kernel_rfl) (by kernel_rfl) (by kernel_rfl) (fun _ _ _ h => h) (Or.inl ⟨by rfl, ?_⟩) hHeld (by kernel_rfl) ?_; rotate_left; (focus (intro wS hSw; (skip); go_simp; (try with_reducible rfl); done)); (try simp only [Act.put, List.setIfInBounds_toArray, List.set_cons_zero, List.set_cons_succ])
                      first
                        | (refine wpAnyD_pure (i := 2) (oi := { dst := _, op := _, type := _, pos := _, after := _, guard := _ }) (v := _) rfl (by kernel_rfl) (by kernel_rfl) (by kernel_rfl) (fun _ _ _ h => h) (Or.inr ⟨by rfl, rfl⟩) hHeld (by decide) ?_; (try simp only [Act.put, List.setIfInBounds_toArray, List.set_cons_zero, List.set_cons_succ]))
                        | (refine wpAnyD_pure (i := 2) (oi := { dst := _, op := _, type := _, pos := _, after := _, guard := _ }) (v := ?_) rfl (by kernel_rfl) (by kernel_rfl) (by kernel_rfl) (fun _ _ _ h => h) (Or.inl ⟨by rfl, ?_⟩) hHeld (by decide) ?_; rotate_left; (focus (intro wS hSw; (try dsimp only at hSw); go_simp; (try with_reducible rfl); done)); (try simp only [Act.put, List.setIfInBounds_toArray, List.set_cons_zero, List.set_cons_succ]))
                      first
                        | (refine wpAnyD_pure (i := 4) (oi := { dst := _, op := _, type := _, pos := _, after := _, guard := _ }) (v := _) rfl (by kernel_rfl) (by kernel_rfl) (by kernel_rfl) (fun _ _ _ h => h) (Or.inr ⟨by rfl, rfl⟩) hHeld (by decide) ?_; (try simp only [Act.put, List.setIfInBounds_toArray, List.set_cons_zero, List.set_cons_succ]))
                        | (refine wpAnyD_pure (i := 4) (oi := { dst := _, op := _, type := _, pos := _, after := _, guard := _ }) (v := ?_) rfl (by kernel_rfl) (by kernel_rfl) (by kernel_rfl) (fun _ _ _ h => h) (Or.inl ⟨by rfl, ?_⟩) hHeld (by decide) ?_; rotate_left; (focus (intro wS hSw; (try dsimp only at hSw); go_simp; (try with_reducible rfl); done)); (try simp only [Act.put, List.setIfInBounds_toArray, List.set_cons_zero, List.set_cons_succ]))
                      refine wpAnyD_ready (rs := [3]) (by kernel_rfl) (by simp) ?_
                      refine AllReadyD.cons (o := { dst := _, op := _, type := _, pos := _, after := _, guard := _ }) rfl (fun K hK => ?_) AllReadyD.nil
                      go_simp
                      (with_reducible refine HC0.out.mono ?_)
                      rintro e y1 ⟨rfl, hrd, hg⟩
                      have HDy1 := Lib.hid hrd
                      have HGy1 := Lib.hid (gTrans HGy0.out hg)
                      have HAy1 := Lib.hid (HAy0.out.gone hg HNE.out)
                      have HOy1 := Lib.hid (HOy0.out.gone hg (HOy0.out.ne HDy0.out (by decide)))
                      clear hrd hg
                      have hcc := rnumber_k R (bs t1x) 5 5 rfl y1 HDy1.out (fit_bs HTt1.out) (by decide)
                      rw [bl_bs, HOO1.out] at hcc
                      have HC1 := Lib.hid hcc
                      clear hcc
                      go_wp2_with fail
                      refine hK.out _ _ ?_ (fun hHeld => ?_)
                      focus (exact HAy1.out.at 4 _ rfl)
                      clear hK K
                      (try simp only [Act.put, List.setIfInBounds_toArray, List.set_cons_zero, List.set_cons_succ])
                      refine wpAnyD_ready (rs := [5]) (by kernel_rfl) (by simp) ?_
                      refine AllReadyD.cons (o := { dst := _, op := _, type := _, pos := _, after := _, guard := _ }) rfl (fun K hK => ?_) AllReadyD.nil
                      go_simp
                      (with_reducible refine HC1.out.mono ?_)
                      rintro e y2 ⟨rfl, hrd, hg⟩
                      have HDy2 := Lib.hid hrd
                      have HGy2 := Lib.hid (gTrans HGy1.out hg)
                      have HAy2 := Lib.hid (HAy1.out.gone hg HNE.out)
                      have HOy2 := Lib.hid (HOy1.out.gone hg (HOy1.out.ne HDy1.out (by decide)))
                      clear hrd hg
                      go_wp2_with fail
                      refine hK.out _ _ ?_ (fun hHeld => ?_)
                      focus (exact HAy2.out.at 4 _ rfl)
                      clear hK K
                      (try simp only [Act.put, List.setIfInBounds_toArray, List.set_cons_zero, List.set_cons_succ])
                      first
                        | (refine wpAnyD_pure (i := 6) (oi := { dst := _, op := _, type := _, pos := _, after := _, guard := _ }) (v := _) rfl (by kernel_rfl) (by kernel_rfl) (by kernel_rfl) (fun _ _ _ h => h) (Or.inr ⟨by rfl, rfl⟩) hHeld (by decide) ?_; (try simp only [Act.put, List.setIfInBounds_toArray, List.set_cons_zero, List.set_cons_succ]))
                        | (refine wpAnyD_pure (i := 6) (oi := { dst := _, op := _, type := _, pos := _, after := _, guard := _ }) (v := ?_) rfl (by kernel_rfl) (by kernel_rfl) (by kernel_rfl) (fun _ _ _ h => h) (Or.inl ⟨by rfl, ?_⟩) hHeld (by decide) ?_; rotate_left; (focus (intro wS hSw; (try dsimp only at hSw); go_simp; (try with_reducible rfl); done)); (try simp only [Act.put, List.setIfInBounds_toArray, List.set_cons_zero, List.set_cons_succ]))
                      first
                        | (refine wpAnyD_pure (i := 7) (oi := { dst := _, op := _, type := _, pos := _, after := _, guard := _ }) (v := _) rfl (by kernel_rfl) (by kernel_rfl) (by kernel_rfl) (fun _ _ _ h => h) (Or.inr ⟨by rfl, rfl⟩) hHeld (by decide) ?_; (try simp only [Act.put, List.setIfInBounds_toArray, List.set_cons_zero, List.set_cons_succ]))
                        | (refine wpAnyD_pure (i := 7) (oi := { dst := _, op := _, type := _, pos := _, after := _, guard := _ }) (v := ?_) rfl (by kernel_rfl) (by kernel_rfl) (by kernel_rfl) (fun _ _ _ h => h) (Or.inl ⟨by rfl, ?_⟩) hHeld (by decide) ?_; rotate_left; (focus (intro wS hSw; (try dsimp only at hSw); go_simp; (try with_reducible rfl); done)); (try simp only [Act.put, List.setIfInBounds_toArray, List.set_cons_zero, List.set_cons_succ]))
                      refine wpAnyD_ready (rs := [8]) (by kernel_rfl) (by simp) ?_
                      refine AllReadyD.cons (o := { dst := _, op := _, type := _, pos := _, after := _, guard := _ }) rfl (fun K hK => ?_) AllReadyD.nil
                      obtain ⟨yb, hyb, hbb, hrb, hsb⟩ := one y2 49 [.string (bs xs), .int .u8 (xn : Int)]
                      have HYB := Lib.hid hyb
                      have HDb := Lib.hid (HDy2.out.below hbb)
                      have HGb := Lib.hid (gTrans HGy2.out (gBelow hbb (some R)))
                      have HAb := Lib.hid (HAy2.out.below hbb)
                      have HOb := Lib.hid (HOy2.out.below hbb)
                      have HCb := Lib.hid (fun (q : Nat) (u : Value) (hq : ([.string (bs xs), .int .u8 (xn : Int)] : List Value)[q]? = some u) => (show yb.cell? ((⟨y2.heap.size, 0, none⟩ : Addr).add q) = some u by
                        have ha : (⟨y2.heap.size, 0, none⟩ : Addr).add q = ⟨y2.heap.size, q, none⟩ := by unfold Addr.add; split <;> simp_all
                        rw [ha]; exact hrb.at q u hq))
                      obtain ⟨j0, hii, hz0, hz1, hz2⟩ := info_parts infoAff
                      have HII := Lib.hid (And.intro hii (And.intro hz0 (And.intro hz1 hz2)))
                      clear hyb hbb hrb hsb hii hz0 hz1 hz2
                      go_simp
                      rw [HYB.out]
                      refine hK.out _ _ ?_ (fun hHeld => ?_)
                      focus (exact HAb.out.at 4 _ rfl)
                      clear hK K
                      (try simp only [Act.put, List.setIfInBounds_toArray, List.set_cons_zero, List.set_cons_succ])
                      refine wpAnyD_ready (rs := [9]) (by kernel_rfl) (by simp) ?_
                      refine AllReadyD.last (o := { dst := _, op := _, type := _, pos := _, after := _, guard := _ }) rfl (by kernel_rfl) (fun K hK => ?_) AllReadyD.nil
                      rw [if_pos (by rfl)]
                      refine wp_append_own _ (.tmp 24) (.tmp 31) 23 rfl w.heap.size 49 j0 (.agg #[.string ⟨#[]⟩, .int .u8 0]) 2 24 Tryz.underlying23 HII.out.1 HII.out.2.1 HII.out.2.2.1 HII.out.2.2.2 rfl (by omega) (.slice aA lA.length cA) lA.length (lA.flatMap PAff.enc) rfl HOb.out ⟨y2.heap.size, 0, none⟩ 1 1 [.string (bs xs), .int .u8 (xn : Int)] rfl rfl HCb.out (PAff.one1 ⟨bs xs, (xn : Int)⟩) (by simp only [maxLen]; omega) (by omega) HGb.out.size ?_
                      intro v6 yc ho6 hg6 _
                      obtain ⟨q6, k6, rfl⟩ := row_slice ho6
                      have HO6 : Hid (OwE PAff.enc 2 yc w.heap.size 49 (.slice q6 (lA.length + 1) k6) (lA ++ [⟨bs xs, (xn : Int)⟩])) := by
                        show OwE _ _ _ _ _ _ _
                        unfold OwE
                        rw [List.length_append, List.flatMap_append]
                        simpa [PAff.enc] using ho6
                      have hown : ∀ q, (Value.slice aA lA.length cA).ownBlock = some q → w.heap.size ≤ q := fun q e => (World.ownsRow.lt HOb.out q e).1
                      have HGc := Lib.hid (gOut HGb.out hg6 hown)
                      have HDc := Lib.hid (HDb.out.goneR hg6 (HOb.out.ne HDb.out (by decide)))
                      have HAc := Lib.hid (HAb.out.goneR hg6 (HOb.out.ne HAb.out (by decide)))
                      obtain ⟨yd, std, hrd, hgd, _⟩ := run_store_one (P := Tryz.prog) HAc.out 23 4 (.slice q6 (lA.length + 1) k6) (Tryz.sizeOf23 _) (by simp) rfl rfl
                      have STd := Lib.hid std
                      have HAd := Lib.hid hrd
                      have HGd := Lib.hid (gOut1 HGc.out hgd (Nat.le_refl _))
                      have HDd := Lib.hid (HDc.out.gone hgd (Ne.symm HNE.out))
                      have HOd := Lib.hid (HO6.out.gone hgd (HO6.out.ne HAc.out (by decide)))
                      clear ho6 hg6 hown std hrd hgd
                      refine hK.out _ _ ?_ (fun hHeld => ?_)
                      focus (exact trivial)
                      clear hK K
                      (try simp only [Act.put, List.setIfInBounds_toArray, List.set_cons_zero, List.set_cons_succ])
                      first
                        | (refine wpAnyH_take (i := 10) (oi := { dst := _, op := _, type := _, pos := _, after := _, guard := _ }) (v := _) rfl (by kernel_rfl) (by kernel_rfl) (by kernel_rfl) (fun _ _ _ h => h) (Or.inr ⟨by rfl, rfl⟩) hHeld ?_; (try simp only [Act.put, List.setIfInBounds_toArray, List.set_cons_zero, List.set_cons_succ]))
                        | (refine wpAnyH_take (i := 10) (oi := { dst := _, op := _, type := _, pos := _, after := _, guard := _ }) (v := ?_) rfl (by kernel_rfl) (by kernel_rfl) (by kernel_rfl) (fun _ _ _ h => h) (Or.inl ⟨by rfl, ?_⟩) hHeld ?_; rotate_left; (focus (intro wS hSw; (try dsimp only at hSw); go_simp; (try with_reducible rfl); done)); (try simp only [Act.put, List.setIfInBounds_toArray, List.set_cons_zero, List.set_cons_succ]))
                      refine wpAnyH_ready (rs := [11]) (by kernel_rfl) (by simp) ?_
                      refine AllReadyH.cons (o := { dst := _, op := _, type := _, pos := _, after := _, guard := _ }) rfl (fun K hK => ?_) AllReadyH.nil
                      rw [if_pos (by rfl)]
                      refine wp_store_run _ 23 _ _ rfl _ _ rfl rfl STd.out ?_
                      refine hK.out _ _ ?_ (fun hHeld => ?_)
                      focus (exact trivial)
                      clear hK K
                      (try simp only [Act.put, List.setIfInBounds_toArray, List.set_cons_zero, List.set_cons_succ])
                      refine wpAnyH_done (by kernel_rfl) ?_ _
                      go_wp2_with fail
                      go_roundw
                      case rel =>
                        refine ⟨lA ++ [⟨bs xs, (xn : Int)⟩], q6, k6, t2x, by rw [List.length_append]; simp; omega, by rw [List.length_append]; go_num, ?_, ?_, HDd.out, HTt2.out, HGd.out, ?_, ?_⟩
                        · show OwE _ _ _ _ _ _ _
                          rw [List.length_append]
                          exact HOd.out
                        · show RowI _ _ _ _ _
                          rw [List.length_append]
                          exact HAd.out
                        · intro y hy
                          rcases List.mem_append.1 hy with hy | hy
                          · exact HSm.out y hy
                          · obtain rfl : y = ⟨bs xs, (xn : Int)⟩ := (by simpa using hy)
                            exact HSt1.out
                        · show _ = _
                          rw [HMm.out]
                          rw [show kA - (lA ++ [(⟨bs xs, (xn : Int)⟩ : PAff)]).length = m by have := HMK.out; rw [List.length_append]; simp; omega]
                      case measure => simp [intOf]; omega
                · have ck : decide ((lA.length : Int) < (kA : Int)) = false := by rw [decide_eq_false_iff_not]; omega
                  have ck2 : decide (lA.length < kA) = false := decide_eq_false hlt
                  have hmm := HM.out
                  rw [show kA - lA.length = 0 by omega] at hmm
                  have hx := HX11.out
                  rw [hmm, manyR, bind_some] at hx
                  simp only [] at hx
                  have HX12 := Lib.hid hx
                  clear hmm hx HM
                  obtain ⟨w12, hwx⟩ : ∃ x, x = wr := ⟨_, rfl⟩
                  subst hwx
                  have HA12 := HA
                  have HD12 := HD
                  have HT12 := HT
                  have HG12 := HG
                  have HRA_12 := HO
                  have HSMA := HSm
                  have hc13 := rnumber_k R (bs t) 16 16 rfl w12 HD12.out (fit_bs HT12.out) (by decide)
                  cases ho13 : numR 16 t with
                  | none =>
                    rw [bl_bs, ho13] at hc13
                    have HN : Hid (decR pr t0 = none) := by show _ = _; rw [HX12.out, ho13]; rfl
                    have HC := Lib.hid hc13
                    clear hc13 ho13
                    go_wp2_with fail
                    (with_reducible refine HC.out.mono ?_)
                    rintro e wz ⟨rfl, hg⟩
                    go_wp2_with fail
                    exact ⟨rfl, by rw [HN.out]; exact ⟨rfl, gTrans HG12.out hg⟩⟩
                  | some x13 =>
                    obtain ⟨kS, uS⟩ := x13
                    rw [bl_bs, ho13] at hc13
                    have HC := Lib.hid hc13
                    have hx := HX12.out
                    rw [ho13, bind_some] at hx
                    simp only [] at hx
                    have HX13 := Lib.hid hx
                    obtain ⟨hf, hle⟩ := num_fit ho13 HT12.out
                    have HT13 := Lib.hid hf
                    have HL13 := Lib.hid hle
                    clear hf hle
                    have hkS : kS ≤ 16 := HL13.out
                    clear hc13 ho13 hx HX12
                    go_wp2_with fail
                    (with_reducible refine HC.out.mono ?_)
                    rintro e w13 ⟨rfl, hrd, hg⟩
                    have HD13 := Lib.hid hrd
                    have HG13 := Lib.hid (gTrans HG12.out hg)
                    have HA13 := Lib.hid (HA12.out.gone hg HNE.out)
                    have HRA_13 := Lib.hid (HRA_12.out.gone hg ((HRA_12.out.ne HD12.out (by decide))))
                    clear hrd hg HC HD12 HG12 HA12
                    go_upto_region 8 with fail
                    go_loopw [37] (fun iv W => ∃ (lS : List PSub) (aS : Option Addr) (cS : Nat) (t : List UInt8), lS.length ≤ kS ∧ iv = .int .i64 lS.length ∧ Hid (OwE PSub.enc 3 W w.heap.size 51 (.slice aS lS.length cS) lS) ∧ Hid (RowI W w.heap.size 27 8 [.string (bs nm), .bool cl, .int .u8 (ac : Int), .int .i64 (mx : Int), .slice aA lA.length cA, .slice aS lS.length cS, .slice none 0 0, .string (bs pa)]) ∧ Hid (Rd W R (bs t)) ∧ Hid (Fit t) ∧ Hid (w.grownBy W (some R)) ∧ Hid (∀ x ∈ lS, Sm x.jid) ∧ Hid (manyR subR kS [] uS = manyR subR (kS - lS.length) lS t) ∧ Hid (OwE PAff.enc 2 W w.heap.size 49 (.slice aA lA.length cA) lA)) (fun iv _ => kS - (intOf iv).toNat)
                    case atStart => exact ⟨[], none, 0, uS, Nat.zero_le _, rfl, World.ownsRow_nil _ _ _ _, HA13.out, HD13.out, HT13.out, HG13.out, fun _ h => (by cases h), rfl, HRA_13.out⟩
                    case round =>
                      obtain ⟨lS, aS, cS, t, hal, rfl, HO, HA, HD, HT, HG, HSm, HM, HRA⟩ := hrel
                      have hm1 : lS.length ≤ 16 := Nat.le_trans hal hkS
                      by_cases hlt : lS.length < kS
                      · have ck : decide ((lS.length : Int) < (kS : Int)) = true := by rw [decide_eq_true_eq]; omega
                        have ck2 : decide (lS.length < kS) = true := decide_eq_true hlt
                        have hmm := HM.out
                        obtain ⟨m, hmk⟩ : ∃ m, kS - lS.length = m + 1 := ⟨kS - lS.length - 1, by omega⟩
                        rw [hmk, manyR_b, subR_b] at hmm
                        simp only [bind_assoc, bind_some] at hmm
                        have HMm := Lib.hid hmm
                        have HMK := Lib.hid hmk
                        clear hmm hmk
                        have c4 := HA.out.at 5 _ rfl
                        have hdr : Below wr.heap.size wr wr.drew := (Below.refl _ _).drew
                        have HDy0 := Lib.hid (HD.out.below hdr)
                        have HGy0 := Lib.hid (gTrans HG.out (gBelow hdr (some R)))
                        have HAy0 := Lib.hid (HA.out.below hdr)
                        have HOy0 := Lib.hid (HO.out.below hdr)
                        have HRAy0 := Lib.hid (HRA.out.below hdr)
                        clear hdr
                        cases ho0 : wordR t with
                        | none =>
                          have HN : Hid (decR pr t0 = none) := by
                            show _ = _
                            rw [HX13.out, HMm.out, ho0]
                            rfl
                          have HOO0 := Lib.hid ho0
                          have hcc := rword_any R (bs t) wr.drew HDy0.out (fit_bs HT.out)
                          rw [bl_bs, HOO0.out] at hcc
                          have HC0 := Lib.hid hcc
                          clear hcc ho0
                          go_upto_region 9 with fail
                          refine wp_region_D (fun W => W.cell? ⟨w.heap.size, 5, none⟩ = some (.slice aS lS.length cS)) [10, 12] mixed c4 (fun hHeld => ?_)
                          first
                            | (refine wpAnyD_pure (i := 0) (oi := { dst := _, op := _, type := _, pos := _, after := _, guard := _ }) (v := _) rfl (by kernel_rfl) (by kernel_rfl) (by kernel_rfl) (fun _ _ _ h => h) (Or.inr ⟨by rfl, rfl⟩) hHeld (by decide) ?_; (try simp only [Act.put, List.setIfInBounds_toArray, List.set_cons_zero, List.set_cons_succ]))
                            | (refine wpAnyD_pure (i := 0) (oi := { dst := _, op := _, type := _, pos := _, after := _, guard := _ }) (v := ?_) rfl (by kernel_rfl) (by kernel_rfl) (by kernel_rfl) (fun _ _ _ h => h) (Or.inl ⟨by rfl, ?_⟩) hHeld (by decide) ?_; rotate_left; (focus (intro wS hSw; (try dsimp only at hSw); go_simp; (try with_reducible rfl); done)); (try simp only [Act.put, List.setIfInBounds_toArray, List.set_cons_zero, List.set_cons_succ]))
                          refine wpAnyD_take (i := 1) (oi := { dst := _, op := _, type := _, pos := _, after := _, guard := _ }) (v := ?_) rfl (by kernel_rfl) (by kernel_rfl) (by kernel_rfl) (fun _ _ _ h => h) (Or.inl ⟨by rfl, ?_⟩) hHeld (by kernel_rfl) ?_; rotate_left; (focus (intro wS hSw; (skip); go_simp; (try with_reducible rfl); done)); (try simp only [Act.put, List.setIfInBounds_toArray, List.set_cons_zero, List.set_cons_succ])
                          first
                            | (refine wpAnyD_pure (i := 2) (oi := { dst := _, op := _, type := _, pos := _, after := _, guard := _ }) (v := _) rfl (by kernel_rfl) (by kernel_rfl) (by kernel_rfl) (fun _ _ _ h => h) (Or.inr ⟨by rfl, rfl⟩) hHeld (by decide) ?_; (try simp only [Act.put, List.setIfInBounds_toArray, List.set_cons_zero, List.set_cons_succ]))
                            | (refine wpAnyD_pure (i := 2) (oi := { dst := _, op := _, type := _, pos := _, after := _, guard := _ }) (v := ?_) rfl (by kernel_rfl) (by kernel_rfl) (by kernel_rfl) (fun _ _ _ h => h) (Or.inl ⟨by rfl, ?_⟩) hHeld (by decide) ?_; rotate_left; (focus (intro wS hSw; (try dsimp only at hSw); go_simp; (try with_reducible rfl); done)); (try simp only [Act.put, List.setIfInBounds_toArray, List.set_cons_zero, List.set_cons_succ]))
                          first
                            | (refine wpAnyD_pure (i := 4) (oi := { dst := _, op := _, type := _, pos := _, after := _, guard := _ }) (v := _) rfl (by kernel_rfl) (by kernel_rfl) (by kernel_rfl) (fun _ _ _ h => h) (Or.inr ⟨by rfl, rfl⟩) hHeld (by decide) ?_; (try simp only [Act.put, List.setIfInBounds_toArray, List.set_cons_zero, List.set_cons_succ]))
                            | (refine wpAnyD_pure (i := 4) (oi := { dst := _, op := _, type := _, pos := _, after := _, guard := _ }) (v := ?_) rfl (by kernel_rfl) (by kernel_rfl) (by kernel_rfl) (fun _ _ _ h => h) (Or.inl ⟨by rfl, ?_⟩) hHeld (by decide) ?_; rotate_left; (focus (intro wS hSw; (try dsimp only at hSw); go_simp; (try with_reducible rfl); done)); (try simp only [Act.put, List.setIfInBounds_toArray, List.set_cons_zero, List.set_cons_succ]))
                          first
                            | (refine wpAnyD_pure (i := 6) (oi := { dst := _, op := _, type := _, pos := _, after := _, guard := _ }) (v := _) rfl (by kernel_rfl) (by kernel_rfl) (by kernel_rfl) (fun _ _ _ h => h) (Or.inr ⟨by rfl, rfl⟩) hHeld (by decide) ?_; (try simp only [Act.put, List.setIfInBounds_toArray, List.set_cons_zero, List.set_cons_succ]))
                            | (refine wpAnyD_pure (i := 6) (oi := { dst := _, op := _, type := _, pos := _, after := _, guard := _ }) (v := ?_) rfl (by kernel_rfl) (by kernel_rfl) (by kernel_rfl) (fun _ _ _ h => h) (Or.inl ⟨by rfl, ?_⟩) hHeld (by decide) ?_; rotate_left; (focus (intro wS hSw; (try dsimp only at hSw); go_simp; (try with_reducible rfl); done)); (try simp only [Act.put, List.setIfInBounds_toArray, List.set_cons_zero, List.set_cons_succ]))
                          refine wpAnyD_ready (rs := [3]) (by kernel_rfl) (by simp) ?_
                          refine AllReadyD.cons (o := { dst := _, op := _, type := _, pos := _, after := _, guard := _ }) rfl (fun K hK => ?_) AllReadyD.nil
                          go_simp
                          (with_reducible refine HC0.out.mono ?_)
                          rintro e wz ⟨rfl, hg⟩
                          go_wp2_with fail
                          exact ⟨rfl, by rw [HN.out]; exact ⟨rfl, gTrans HGy0.out hg⟩⟩
                        | some xx =>
                          obtain ⟨xs, t1x⟩ := xx
                          have HOO0 := Lib.hid ho0
                          have hmm := HMm.out
                          rw [ho0, bind_some] at hmm
                          simp only [] at hmm
                          have HMm := Lib.hid hmm
                          obtain ⟨hf, hlt⟩ := word_fit ho0 HT.out
                          have HTt1 := Lib.hid hf
                          have HSt1 := Lib.hid (of_lt hlt)
                          clear hf hlt
                          clear hmm ho0
                          cases ho1 : ofR 112 115 t1x with
                          | none =>
                            have HN : Hid (decR pr t0 = none) := by
                              show _ = _
                              rw [HX13.out, HMm.out, ho1]
                              rfl
                            have HOO1 := Lib.hid ho1
                            have hcc := rword_any R (bs t) wr.drew HDy0.out (fit_bs HT.out)
                            rw [bl_bs, HOO0.out] at hcc
                            have HC0 := Lib.hid hcc
                            clear hcc ho1
                            go_upto_region 9 with fail
                            refine wp_region_D (fun W => W.cell? ⟨w.heap.size, 5, none⟩ = some (.slice aS lS.length cS)) [10, 12] mixed c4 (fun hHeld => ?_)
                            first
                              | (refine wpAnyD_pure (i := 0) (oi := { dst := _, op := _, type := _, pos := _, after := _, guard := _ }) (v := _) rfl (by kernel_rfl) (by kernel_rfl) (by kernel_rfl) (fun _ _ _ h => h) (Or.inr ⟨by rfl, rfl⟩) hHeld (by decide) ?_; (try simp only [Act.put, List.setIfInBounds_toArray, List.set_cons_zero, List.set_cons_succ]))
                              | (refine wpAnyD_pure (i := 0) (oi := { dst := _, op := _, type := _, pos := _, after := _, guard := _ }) (v := ?_) rfl (by kernel_rfl) (by kernel_rfl) (by kernel_rfl) (fun _ _ _ h => h) (Or.inl ⟨by rfl, ?_⟩) hHeld (by decide) ?_; rotate_left; (focus (intro wS hSw; (try dsimp only at hSw); go_simp; (try with_reducible rfl); done)); (try simp only [Act.put, List.setIfInBounds_toArray, List.set_cons_zero, List.set_cons_succ]))
                            refine wpAnyD_take (i := 1) (oi := { dst := _, op := _, type := _, pos := _, after := _, guard := _ }) (v := ?_) rfl (by kernel_rfl) (by kernel_rfl) (by kernel_rfl) (fun _ _ _ h => h) (Or.inl ⟨by rfl, ?_⟩) hHeld (by kernel_rfl) ?_; rotate_left; (focus (intro wS hSw; (skip); go_simp; (try with_reducible rfl); done)); (try simp only [Act.put, List.setIfInBounds_toArray, List.set_cons_zero, List.set_cons_succ])
                            first
                              | (refine wpAnyD_pure (i := 2) (oi := { dst := _, op := _, type := _, pos := _, after := _, guard := _ }) (v := _) rfl (by kernel_rfl) (by kernel_rfl) (by kernel_rfl) (fun _ _ _ h => h) (Or.inr ⟨by rfl, rfl⟩) hHeld (by decide) ?_; (try simp only [Act.put, List.setIfInBounds_toArray, List.set_cons_zero, List.set_cons_succ]))
                              | (refine wpAnyD_pure (i := 2) (oi := { dst := _, op := _, type := _, pos := _, after := _, guard := _ }) (v := ?_) rfl (by kernel_rfl) (by kernel_rfl) (by kernel_rfl) (fun _ _ _ h => h) (Or.inl ⟨by rfl, ?_⟩) hHeld (by decide) ?_; rotate_left; (focus (intro wS hSw; (try dsimp only at hSw); go_simp; (try with_reducible rfl); done)); (try simp only [Act.put, List.setIfInBounds_toArray, List.set_cons_zero, List.set_cons_succ]))
                            first
                              | (refine wpAnyD_pure (i := 4) (oi := { dst := _, op := _, type := _, pos := _, after := _, guard := _ }) (v := _) rfl (by kernel_rfl) (by kernel_rfl) (by kernel_rfl) (fun _ _ _ h => h) (Or.inr ⟨by rfl, rfl⟩) hHeld (by decide) ?_; (try simp only [Act.put, List.setIfInBounds_toArray, List.set_cons_zero, List.set_cons_succ]))
                              | (refine wpAnyD_pure (i := 4) (oi := { dst := _, op := _, type := _, pos := _, after := _, guard := _ }) (v := ?_) rfl (by kernel_rfl) (by kernel_rfl) (by kernel_rfl) (fun _ _ _ h => h) (Or.inl ⟨by rfl, ?_⟩) hHeld (by decide) ?_; rotate_left; (focus (intro wS hSw; (try dsimp only at hSw); go_simp; (try with_reducible rfl); done)); (try simp only [Act.put, List.setIfInBounds_toArray, List.set_cons_zero, List.set_cons_succ]))
                            first
                              | (refine wpAnyD_pure (i := 6) (oi := { dst := _, op := _, type := _, pos := _, after := _, guard := _ }) (v := _) rfl (by kernel_rfl) (by kernel_rfl) (by kernel_rfl) (fun _ _ _ h => h) (Or.inr ⟨by rfl, rfl⟩) hHeld (by decide) ?_; (try simp only [Act.put, List.setIfInBounds_toArray, List.set_cons_zero, List.set_cons_succ]))
                              | (refine wpAnyD_pure (i := 6) (oi := { dst := _, op := _, type := _, pos := _, after := _, guard := _ }) (v := ?_) rfl (by kernel_rfl) (by kernel_rfl) (by kernel_rfl) (fun _ _ _ h => h) (Or.inl ⟨by rfl, ?_⟩) hHeld (by decide) ?_; rotate_left; (focus (intro wS hSw; (try dsimp only at hSw); go_simp; (try with_reducible rfl); done)); (try simp only [Act.put, List.setIfInBounds_toArray, List.set_cons_zero, List.set_cons_succ]))
                            refine wpAnyD_ready (rs := [3]) (by kernel_rfl) (by simp) ?_
                            refine AllReadyD.cons (o := { dst := _, op := _, type := _, pos := _, after := _, guard := _ }) rfl (fun K hK => ?_) AllReadyD.nil
                            go_simp
                            (with_reducible refine HC0.out.mono ?_)
                            rintro e y1 ⟨rfl, hrd, hg⟩
                            have HDy1 := Lib.hid hrd
                            have HGy1 := Lib.hid (gTrans HGy0.out hg)
                            have HAy1 := Lib.hid (HAy0.out.gone hg HNE.out)
                            have HOy1 := Lib.hid (HOy0.out.gone hg (HOy0.out.ne HDy0.out (by decide)))
                            have HRAy1 := Lib.hid (HRAy0.out.gone hg (HRAy0.out.ne HDy0.out (by decide)))
                            clear hrd hg
                            have hcc := rof_any R (bs t1x) 112 115 y1 HDy1.out (fit_bs HTt1.out)
                            rw [bl_bs, HOO1.out] at hcc
                            have HC1 := Lib.hid hcc
                            clear hcc
                            go_wp2_with fail
                            refine hK.out _ _ ?_ (fun hHeld => ?_)
                            focus (exact HAy1.out.at 5 _ rfl)
                            clear hK K
                            (try simp only [Act.put, List.setIfInBounds_toArray, List.set_cons_zero, List.set_cons_succ])
                            refine wpAnyD_ready (rs := [5]) (by kernel_rfl) (by simp) ?_
                            refine AllReadyD.cons (o := { dst := _, op := _, type := _, pos := _, after := _, guard := _ }) rfl (fun K hK => ?_) AllReadyD.nil
                            go_simp
                            (with_reducible refine HC1.out.mono ?_)
                            rintro e wz ⟨rfl, hg⟩
                            go_wp2_with fail
                            exact ⟨rfl, by rw [HN.out]; exact ⟨rfl, gTrans HGy1.out hg⟩⟩
                          | some xx =>
                            obtain ⟨xp, t2x⟩ := xx
                            have HOO1 := Lib.hid ho1
                            have hmm := HMm.out
                            rw [ho1, bind_some] at hmm
                            simp only [] at hmm
                            have HMm := Lib.hid hmm
                            have HTt2 := Lib.hid (of_fit ho1 HTt1.out)
                            clear hmm ho1
                            cases ho2 : numR 255 t2x with
                            | none =>
                              have HN : Hid (decR pr t0 = none) := by
                                show _ = _
                                rw [HX13.out, HMm.out, ho2]
                                rfl
                              have HOO2 := Lib.hid ho2
                              have hcc := rword_any R (bs t) wr.drew HDy0.out (fit_bs HT.out)
                              rw [bl_bs, HOO0.out] at hcc
                              have HC0 := Lib.hid hcc
                              clear hcc ho2
                              go_upto_region 9 with fail
                              refine wp_region_D (fun W => W.cell? ⟨w.heap.size, 5, none⟩ = some (.slice aS lS.length cS)) [10, 12] mixed c4 (fun hHeld => ?_)
                              first
                                | (refine wpAnyD_pure (i := 0) (oi := { dst := _, op := _, type := _, pos := _, after := _, guard := _ }) (v := _) rfl (by kernel_rfl) (by kernel_rfl) (by kernel_rfl) (fun _ _ _ h => h) (Or.inr ⟨by rfl, rfl⟩) hHeld (by decide) ?_; (try simp only [Act.put, List.setIfInBounds_toArray, List.set_cons_zero, List.set_cons_succ]))
                                | (refine wpAnyD_pure (i := 0) (oi := { dst := _, op := _, type := _, pos := _, after := _, guard := _ }) (v := ?_) rfl (by kernel_rfl) (by kernel_rfl) (by kernel_rfl) (fun _ _ _ h => h) (Or.inl ⟨by rfl, ?_⟩) hHeld (by decide) ?_; rotate_left; (focus (intro wS hSw; (try dsimp only at hSw); go_simp; (try with_reducible rfl); done)); (try simp only [Act.put, List.setIfInBounds_toArray, List.set_cons_zero, List.set_cons_succ]))
                              refine wpAnyD_take (i := 1) (oi := { dst := _, op := _, type := _, pos := _, after := _, guard := _ }) (v := ?_) rfl (by kernel_rfl) (by kernel_rfl) (by kernel_rfl) (fun _ _ _ h => h) (Or.inl ⟨by rfl, ?_⟩) hHeld (by kernel_rfl) ?_; rotate_left; (focus (intro wS hSw; (skip); go_simp; (try with_reducible rfl); done)); (try simp only [Act.put, List.setIfInBounds_toArray, List.set_cons_zero, List.set_cons_succ])
                              first
                                | (refine wpAnyD_pure (i := 2) (oi := { dst := _, op := _, type := _, pos := _, after := _, guard := _ }) (v := _) rfl (by kernel_rfl) (by kernel_rfl) (by kernel_rfl) (fun _ _ _ h => h) (Or.inr ⟨by rfl, rfl⟩) hHeld (by decide) ?_; (try simp only [Act.put, List.setIfInBounds_toArray, List.set_cons_zero, List.set_cons_succ]))
                                | (refine wpAnyD_pure (i := 2) (oi := { dst := _, op := _, type := _, pos := _, after := _, guard := _ }) (v := ?_) rfl (by kernel_rfl) (by kernel_rfl) (by kernel_rfl) (fun _ _ _ h => h) (Or.inl ⟨by rfl, ?_⟩) hHeld (by decide) ?_; rotate_left; (focus (intro wS hSw; (try dsimp only at hSw); go_simp; (try with_reducible rfl); done)); (try simp only [Act.put, List.setIfInBounds_toArray, List.set_cons_zero, List.set_cons_succ]))
                              first
                                | (refine wpAnyD_pure (i := 4) (oi := { dst := _, op := _, type := _, pos := _, after := _, guard := _ }) (v := _) rfl (by kernel_rfl) (by kernel_rfl) (by kernel_rfl) (fun _ _ _ h => h) (Or.inr ⟨by rfl, rfl⟩) hHeld (by decide) ?_; (try simp only [Act.put, List.setIfInBounds_toArray, List.set_cons_zero, List.set_cons_succ]))
                                | (refine wpAnyD_pure (i := 4) (oi := { dst := _, op := _, type := _, pos := _, after := _, guard := _ }) (v := ?_) rfl (by kernel_rfl) (by kernel_rfl) (by kernel_rfl) (fun _ _ _ h => h) (Or.inl ⟨by rfl, ?_⟩) hHeld (by decide) ?_; rotate_left; (focus (intro wS hSw; (try dsimp only at hSw); go_simp; (try with_reducible rfl); done)); (try simp only [Act.put, List.setIfInBounds_toArray, List.set_cons_zero, List.set_cons_succ]))
                              first
                                | (refine wpAnyD_pure (i := 6) (oi := { dst := _, op := _, type := _, pos := _, after := _, guard := _ }) (v := _) rfl (by kernel_rfl) (by kernel_rfl) (by kernel_rfl) (fun _ _ _ h => h) (Or.inr ⟨by rfl, rfl⟩) hHeld (by decide) ?_; (try simp only [Act.put, List.setIfInBounds_toArray, List.set_cons_zero, List.set_cons_succ]))
                                | (refine wpAnyD_pure (i := 6) (oi := { dst := _, op := _, type := _, pos := _, after := _, guard := _ }) (v := ?_) rfl (by kernel_rfl) (by kernel_rfl) (by kernel_rfl) (fun _ _ _ h => h) (Or.inl ⟨by rfl, ?_⟩) hHeld (by decide) ?_; rotate_left; (focus (intro wS hSw; (try dsimp only at hSw); go_simp; (try with_reducible rfl); done)); (try simp only [Act.put, List.setIfInBounds_toArray, List.set_cons_zero, List.set_cons_succ]))
                              refine wpAnyD_ready (rs := [3]) (by kernel_rfl) (by simp) ?_
                              refine AllReadyD.cons (o := { dst := _, op := _, type := _, pos := _, after := _, guard := _ }) rfl (fun K hK => ?_) AllReadyD.nil
                              go_simp
                              (with_reducible refine HC0.out.mono ?_)
                              rintro e y1 ⟨rfl, hrd, hg⟩
                              have HDy1 := Lib.hid hrd
                              have HGy1 := Lib.hid (gTrans HGy0.out hg)
                              have HAy1 := Lib.hid (HAy0.out.gone hg HNE.out)
                              have HOy1 := Lib.hid (HOy0.out.gone hg (HOy0.out.ne HDy0.out (by decide)))
                              have HRAy1 := Lib.hid (HRAy0.out.gone hg (HRAy0.out.ne HDy0.out (by decide)))
                              clear hrd hg
                              have hcc := rof_any R (bs t1x) 112 115 y1 HDy1.out (fit_bs HTt1.out)
                              rw [bl_bs, HOO1.out] at hcc
                              have HC1 := Lib.hid hcc
                              clear hcc
                              go_wp2_with fail
                              refine hK.out _ _ ?_ (fun hHeld => ?_)
                              focus (exact HAy1.out.at 5 _ rfl)
                              clear hK K
                              (try simp only [Act.put, List.setIfInBounds_toArray, List.set_cons_zero, List.set_cons_succ])
                              refine wpAnyD_ready (rs := [5]) (by kernel_rfl) (by simp) ?_
                              refine AllReadyD.cons (o := { dst := _, op := _, type := _, pos := _, after := _, guard := _ }) rfl (fun K hK => ?_) AllReadyD.nil
                              go_simp
                              (with_reducible refine HC1.out.mono ?_)
                              rintro e y2 ⟨rfl, hrd, hg⟩
                              have HDy2 := Lib.hid hrd
                              have HGy2 := Lib.hid (gTrans HGy1.out hg)
                              have HAy2 := Lib.hid (HAy1.out.gone hg HNE.out)
                              have HOy2 := Lib.hid (HOy1.out.gone hg (HOy1.out.ne HDy1.out (by decide)))
                              have HRAy2 := Lib.hid (HRAy1.out.gone hg (HRAy1.out.ne HDy1.out (by decide)))
                              clear hrd hg
                              have hcc := rnumber_k R (bs t2x) 255 255 rfl y2 HDy2.out (fit_bs HTt2.out) (by decide)
                              rw [bl_bs, HOO2.out] at hcc
                              have HC2 := Lib.hid hcc
                              clear hcc
                              go_wp2_with fail
                              refine hK.out _ _ ?_ (fun hHeld => ?_)
                              focus (exact HAy2.out.at 5 _ rfl)
                              clear hK K
                              (try simp only [Act.put, List.setIfInBounds_toArray, List.set_cons_zero, List.set_cons_succ])
                              refine wpAnyD_ready (rs := [7]) (by kernel_rfl) (by simp) ?_
                              refine AllReadyD.cons (o := { dst := _, op := _, type := _, pos := _, after := _, guard := _ }) rfl (fun K hK => ?_) AllReadyD.nil
                              go_simp
                              (with_reducible refine HC2.out.mono ?_)
                              rintro e wz ⟨rfl, hg⟩
                              go_wp2_with fail
                              exact ⟨rfl, by rw [HN.out]; exact ⟨rfl, gTrans HGy2.out hg⟩⟩
                            | some xx =>
                              obtain ⟨xn, t3x⟩ := xx
                              have HOO2 := Lib.hid ho2
                              have hmm := HMm.out
                              rw [ho2, bind_some] at hmm
                              simp only [] at hmm
                              have HMm := Lib.hid hmm
                              obtain ⟨hf, hle⟩ := num_fit ho2 HTt2.out
                              have HTt3 := Lib.hid hf
                              clear hf
                              clear hmm ho2
                              have hcc := rword_any R (bs t) wr.drew HDy0.out (fit_bs HT.out)
                              rw [bl_bs, HOO0.out] at hcc
                              have HC0 := Lib.hid hcc
                              clear hcc
                              go_upto_region 9 with fail
                              refine wp_region_D (fun W => W.cell? ⟨w.heap.size, 5, none⟩ = some (.slice aS lS.length cS)) [10, 12] mixed c4 (fun hHeld => ?_)
                              first
                                | (refine wpAnyD_pure (i := 0) (oi := { dst := _, op := _, type := _, pos := _, after := _, guard := _ }) (v := _) rfl (by kernel_rfl) (by kernel_rfl) (by kernel_rfl) (fun _ _ _ h => h) (Or.inr ⟨by rfl, rfl⟩) hHeld (by decide) ?_; (try simp only [Act.put, List.setIfInBounds_toArray, List.set_cons_zero, List.set_cons_succ]))
                                | (refine wpAnyD_pure (i := 0) (oi := { dst := _, op := _, type := _, pos := _, after := _, guard := _ }) (v := ?_) rfl (by kernel_rfl) (by kernel_rfl) (by kernel_rfl) (fun _ _ _ h => h) (Or.inl ⟨by rfl, ?_⟩) hHeld (by decide) ?_; rotate_left; (focus (intro wS hSw; (try dsimp only at hSw); go_simp; (try with_reducible rfl); done)); (try simp only [Act.put, List.setIfInBounds_toArray, List.set_cons_zero, List.set_cons_succ]))
                              refine wpAnyD_take (i := 1) (oi := { dst := _, op := _, type := _, pos := _, after := _, guard := _ }) (v := ?_) rfl (by kernel_rfl) (by kernel_rfl) (by kernel_rfl) (fun _ _ _ h => h) (Or.inl ⟨by rfl, ?_⟩) hHeld (by kernel_rfl) ?_; rotate_left; (focus (intro wS hSw; (skip); go_simp; (try with_reducible rfl); done)); (try simp only [Act.put, List.setIfInBounds_toArray, List.set_cons_zero, List.set_cons_succ])
                              first
                                | (refine wpAnyD_pure (i := 2) (oi := { dst := _, op := _, type := _, pos := _, after := _, guard := _ }) (v := _) rfl (by kernel_rfl) (by kernel_rfl) (by kernel_rfl) (fun _ _ _ h => h) (Or.inr ⟨by rfl, rfl⟩) hHeld (by decide) ?_; (try simp only [Act.put, List.setIfInBounds_toArray, List.set_cons_zero, List.set_cons_succ]))
                                | (refine wpAnyD_pure (i := 2) (oi := { dst := _, op := _, type := _, pos := _, after := _, guard := _ }) (v := ?_) rfl (by kernel_rfl) (by kernel_rfl) (by kernel_rfl) (fun _ _ _ h => h) (Or.inl ⟨by rfl, ?_⟩) hHeld (by decide) ?_; rotate_left; (focus (intro wS hSw; (try dsimp only at hSw); go_simp; (try with_reducible rfl); done)); (try simp only [Act.put, List.setIfInBounds_toArray, List.set_cons_zero, List.set_cons_succ]))
                              first
                                | (refine wpAnyD_pure (i := 4) (oi := { dst := _, op := _, type := _, pos := _, after := _, guard := _ }) (v := _) rfl (by kernel_rfl) (by kernel_rfl) (by kernel_rfl) (fun _ _ _ h => h) (Or.inr ⟨by rfl, rfl⟩) hHeld (by decide) ?_; (try simp only [Act.put, List.setIfInBounds_toArray, List.set_cons_zero, List.set_cons_succ]))
                                | (refine wpAnyD_pure (i := 4) (oi := { dst := _, op := _, type := _, pos := _, after := _, guard := _ }) (v := ?_) rfl (by kernel_rfl) (by kernel_rfl) (by kernel_rfl) (fun _ _ _ h => h) (Or.inl ⟨by rfl, ?_⟩) hHeld (by decide) ?_; rotate_left; (focus (intro wS hSw; (try dsimp only at hSw); go_simp; (try with_reducible rfl); done)); (try simp only [Act.put, List.setIfInBounds_toArray, List.set_cons_zero, List.set_cons_succ]))
                              first
                                | (refine wpAnyD_pure (i := 6) (oi := { dst := _, op := _, type := _, pos := _, after := _, guard := _ }) (v := _) rfl (by kernel_rfl) (by kernel_rfl) (by kernel_rfl) (fun _ _ _ h => h) (Or.inr ⟨by rfl, rfl⟩) hHeld (by decide) ?_; (try simp only [Act.put, List.setIfInBounds_toArray, List.set_cons_zero, List.set_cons_succ]))
                                | (refine wpAnyD_pure (i := 6) (oi := { dst := _, op := _, type := _, pos := _, after := _, guard := _ }) (v := ?_) rfl (by kernel_rfl) (by kernel_rfl) (by kernel_rfl) (fun _ _ _ h => h) (Or.inl ⟨by rfl, ?_⟩) hHeld (by decide) ?_; rotate_left; (focus (intro wS hSw; (try dsimp only at hSw); go_simp; (try with_reducible rfl); done)); (try simp only [Act.put, List.setIfInBounds_toArray, List.set_cons_zero, List.set_cons_succ]))
                              refine wpAnyD_ready (rs := [3]) (by kernel_rfl) (by simp) ?_
                              refine AllReadyD.cons (o := { dst := _, op := _, type := _, pos := _, after := _, guard := _ }) rfl (fun K hK => ?_) AllReadyD.nil
                              go_simp
                              (with_reducible refine HC0.out.mono ?_)
                              rintro e y1 ⟨rfl, hrd, hg⟩
                              have HDy1 := Lib.hid hrd
                              have HGy1 := Lib.hid (gTrans HGy0.out hg)
                              have HAy1 := Lib.hid (HAy0.out.gone hg HNE.out)
                              have HOy1 := Lib.hid (HOy0.out.gone hg (HOy0.out.ne HDy0.out (by decide)))
                              have HRAy1 := Lib.hid (HRAy0.out.gone hg (HRAy0.out.ne HDy0.out (by decide)))
                              clear hrd hg
                              have hcc := rof_any R (bs t1x) 112 115 y1 HDy1.out (fit_bs HTt1.out)
                              rw [bl_bs, HOO1.out] at hcc
                              have HC1 := Lib.hid hcc
                              clear hcc
                              go_wp2_with fail
                              refine hK.out _ _ ?_ (fun hHeld => ?_)
                              focus (exact HAy1.out.at 5 _ rfl)
                              clear hK K
                              (try simp only [Act.put, List.setIfInBounds_toArray, List.set_cons_zero, List.set_cons_succ])
                              refine wpAnyD_ready (rs := [5]) (by kernel_rfl) (by simp) ?_
                              refine AllReadyD.cons (o := { dst := _, op := _, type := _, pos := _, after := _, guard := _ }) rfl (fun K hK => ?_) AllReadyD.nil
                              go_simp
                              (with_reducible refine HC1.out.mono ?_)
                              rintro e y2 ⟨rfl, hrd, hg⟩
                              have HDy2 := Lib.hid hrd
                              have HGy2 := Lib.hid (gTrans HGy1.out hg)
                              have HAy2 := Lib.hid (HAy1.out.gone hg HNE.out)
                              have HOy2 := Lib.hid (HOy1.out.gone hg (HOy1.out.ne HDy1.out (by decide)))
                              have HRAy2 := Lib.hid (HRAy1.out.gone hg (HRAy1.out.ne HDy1.out (by decide)))
                              clear hrd hg
                              have hcc := rnumber_k R (bs t2x) 255 255 rfl y2 HDy2.out (fit_bs HTt2.out) (by decide)
                              rw [bl_bs, HOO2.out] at hcc
                              have HC2 := Lib.hid hcc
                              clear hcc
                              go_wp2_with fail
                              refine hK.out _ _ ?_ (fun hHeld => ?_)
                              focus (exact HAy2.out.at 5 _ rfl)
                              clear hK K
                              (try simp only [Act.put, List.setIfInBounds_toArray, List.set_cons_zero, List.set_cons_succ])
                              refine wpAnyD_ready (rs := [7]) (by kernel_rfl) (by simp) ?_
                              refine AllReadyD.cons (o := { dst := _, op := _, type := _, pos := _, after := _, guard := _ }) rfl (fun K hK => ?_) AllReadyD.nil
                              go_simp
                              (with_reducible refine HC2.out.mono ?_)
                              rintro e y3 ⟨rfl, hrd, hg⟩
                              have HDy3 := Lib.hid hrd
                              have HGy3 := Lib.hid (gTrans HGy2.out hg)
                              have HAy3 := Lib.hid (HAy2.out.gone hg HNE.out)
                              have HOy3 := Lib.hid (HOy2.out.gone hg (HOy2.out.ne HDy2.out (by decide)))
                              have HRAy3 := Lib.hid (HRAy2.out.gone hg (HRAy2.out.ne HDy2.out (by decide)))
                              clear hrd hg
                              go_wp2_with fail
                              refine hK.out _ _ ?_ (fun hHeld => ?_)
                              focus (exact HAy3.out.at 5 _ rfl)
                              clear hK K
                              (try simp only [Act.put, List.setIfInBounds_toArray, List.set_cons_zero, List.set_cons_succ])
                              first
                                | (refine wpAnyD_pure (i := 8) (oi := { dst := _, op := _, type := _, pos := _, after := _, guard := _ }) (v := _) rfl (by kernel_rfl) (by kernel_rfl) (by kernel_rfl) (fun _ _ _ h => h) (Or.inr ⟨by rfl, rfl⟩) hHeld (by decide) ?_; (try simp only [Act.put, List.setIfInBounds_toArray, List.set_cons_zero, List.set_cons_succ]))
                                | (refine wpAnyD_pure (i := 8) (oi := { dst := _, op := _, type := _, pos := _, after := _, guard := _ }) (v := ?_) rfl (by kernel_rfl) (by kernel_rfl) (by kernel_rfl) (fun _ _ _ h => h) (Or.inl ⟨by rfl, ?_⟩) hHeld (by decide) ?_; rotate_left; (focus (intro wS hSw; (try dsimp only at hSw); go_simp; (try with_reducible rfl); done)); (try simp only [Act.put, List.setIfInBounds_toArray, List.set_cons_zero, List.set_cons_succ]))
                              refine wpAnyD_ready (rs := [9]) (by kernel_rfl) (by simp) ?_
                              refine AllReadyD.cons (o := { dst := _, op := _, type := _, pos := _, after := _, guard := _ }) rfl (fun K hK => ?_) AllReadyD.nil
                              obtain ⟨yb, hyb, hbb, hrb, hsb⟩ := one y3 51 [.string (bs xs), .bool xp, .int .i64 (xn : Int)]
                              have HYB := Lib.hid hyb
                              have HDb := Lib.hid (HDy3.out.below hbb)
                              have HGb := Lib.hid (gTrans HGy3.out (gBelow hbb (some R)))
                              have HAb := Lib.hid (HAy3.out.below hbb)
                              have HOb := Lib.hid (HOy3.out.below hbb)
                              have HRAb := Lib.hid (HRAy3.out.below hbb)
                              have HCb := Lib.hid (fun (q : Nat) (u : Value) (hq : ([.string (bs xs), .bool xp, .int .i64 (xn : Int)] : List Value)[q]? = some u) => (show yb.cell? ((⟨y3.heap.size, 0, none⟩ : Addr).add q) = some u by
                                have ha : (⟨y3.heap.size, 0, none⟩ : Addr).add q = ⟨y3.heap.size, q, none⟩ := by unfold Addr.add; split <;> simp_all
                                rw [ha]; exact hrb.at q u hq))
                              obtain ⟨j0, hii, hz0, hz1, hz2⟩ := info_parts infoSub
                              have HII := Lib.hid (And.intro hii (And.intro hz0 (And.intro hz1 hz2)))
                              clear hyb hbb hrb hsb hii hz0 hz1 hz2
                              go_simp
                              rw [HYB.out]
                              refine hK.out _ _ ?_ (fun hHeld => ?_)
                              focus (exact HAb.out.at 5 _ rfl)
                              clear hK K
                              (try simp only [Act.put, List.setIfInBounds_toArray, List.set_cons_zero, List.set_cons_succ])
                              refine wpAnyD_ready (rs := [10]) (by kernel_rfl) (by simp) ?_
                              refine AllReadyD.last (o := { dst := _, op := _, type := _, pos := _, after := _, guard := _ }) rfl (by kernel_rfl) (fun K hK => ?_) AllReadyD.nil
                              rw [if_pos (by rfl)]
                              refine wp_append_own _ (.tmp 40) (.tmp 48) 24 rfl w.heap.size 51 j0 (.agg #[.string ⟨#[]⟩, .bool false, .int .i64 0]) 3 32 Tryz.underlying24 HII.out.1 HII.out.2.1 HII.out.2.2.1 HII.out.2.2.2 rfl (by omega) (.slice aS lS.length cS) lS.length (lS.flatMap PSub.enc) rfl HOb.out ⟨y3.heap.size, 0, none⟩ 1 1 [.string (bs xs), .bool xp, .int .i64 (xn : Int)] rfl rfl HCb.out (PSub.one1 ⟨bs xs, xp, (xn : Int)⟩) (by simp only [maxLen]; omega) (by omega) HGb.out.size ?_
                              intro v6 yc ho6 hg6 _
                              obtain ⟨q6, k6, rfl⟩ := row_slice ho6
                              have HO6 : Hid (OwE PSub.enc 3 yc w.heap.size 51 (.slice q6 (lS.length + 1) k6) (lS ++ [⟨bs xs, xp, (xn : Int)⟩])) := by
                                show OwE _ _ _ _ _ _ _
                                unfold OwE
                                rw [List.length_append, List.flatMap_append]
                                simpa [PSub.enc] using ho6
                              have hown : ∀ q, (Value.slice aS lS.length cS).ownBlock = some q → w.heap.size ≤ q := fun q e => (World.ownsRow.lt HOb.out q e).1
                              have HGc := Lib.hid (gOut HGb.out hg6 hown)
                              have HDc := Lib.hid (HDb.out.goneR hg6 (HOb.out.ne HDb.out (by decide)))
                              have HAc := Lib.hid (HAb.out.goneR hg6 (HOb.out.ne HAb.out (by decide)))
                              have HRAc := Lib.hid (HRAb.out.goneR hg6 (HRAb.out.apart HOb.out (by decide)))
                              obtain ⟨yd, std, hrd, hgd, _⟩ := run_store_one (P := Tryz.prog) HAc.out 24 5 (.slice q6 (lS.length + 1) k6) (Tryz.sizeOf24 _) (by simp) rfl rfl
                              have STd := Lib.hid std
                              have HAd := Lib.hid hrd
                              have HGd := Lib.hid (gOut1 HGc.out hgd (Nat.le_refl _))
                              have HDd := Lib.hid (HDc.out.gone hgd (Ne.symm HNE.out))
                              have HOd := Lib.hid (HO6.out.gone hgd (HO6.out.ne HAc.out (by decide)))
                              have HRAd := Lib.hid (HRAc.out.gone hgd (HRAc.out.ne HAc.out (by decide)))
                              clear ho6 hg6 hown std hrd hgd
                              refine hK.out _ _ ?_ (fun hHeld => ?_)
                              focus (exact trivial)
                              clear hK K
                              (try simp only [Act.put, List.setIfInBounds_toArray, List.set_cons_zero, List.set_cons_succ])
                              first
                                | (refine wpAnyH_take (i := 11) (oi := { dst := _, op := _, type := _, pos := _, after := _, guard := _ }) (v := _) rfl (by kernel_rfl) (by kernel_rfl) (by kernel_rfl) (fun _ _ _ h => h) (Or.inr ⟨by rfl, rfl⟩) hHeld ?_; (try simp only [Act.put, List.setIfInBounds_toArray, List.set_cons_zero, List.set_cons_succ]))
                                | (refine wpAnyH_take (i := 11) (oi := { dst := _, op := _, type := _, pos := _, after := _, guard := _ }) (v := ?_) rfl (by kernel_rfl) (by kernel_rfl) (by kernel_rfl) (fun _ _ _ h => h) (Or.inl ⟨by rfl, ?_⟩) hHeld ?_; rotate_left; (focus (intro wS hSw; (try dsimp only at hSw); go_simp; (try with_reducible rfl); done)); (try simp only [Act.put, List.setIfInBounds_toArray, List.set_cons_zero, List.set_cons_succ]))
                              refine wpAnyH_ready (rs := [12]) (by kernel_rfl) (by simp) ?_
                              refine AllReadyH.cons (o := { dst := _, op := _, type := _, pos := _, after := _, guard := _ }) rfl (fun K hK => ?_) AllReadyH.nil
                              rw [if_pos (by rfl)]
                              refine wp_store_run _ 24 _ _ rfl _ _ rfl rfl STd.out ?_
                              refine hK.out _ _ ?_ (fun hHeld => ?_)
                              focus (exact trivial)
                              clear hK K
                              (try simp only [Act.put, List.setIfInBounds_toArray, List.set_cons_zero, List.set_cons_succ])
                              refine wpAnyH_done (by kernel_rfl) ?_ _
                              go_wp2_with fail
                              go_roundw
                              case rel =>
                                refine ⟨lS ++ [⟨bs xs, xp, (xn : Int)⟩], q6, k6, t3x, by rw [List.length_append]; simp; omega, by rw [List.length_append]; go_num, ?_, ?_, HDd.out, HTt3.out, HGd.out, ?_, ?_, HRAd.out⟩
                                · show OwE _ _ _ _ _ _ _
                                  rw [List.length_append]
                                  exact HOd.out
                                · show RowI _ _ _ _ _
                                  rw [List.length_append]
                                  exact HAd.out
                                · intro y hy
                                  rcases List.mem_append.1 hy with hy | hy
                                  · exact HSm.out y hy
                                  · obtain rfl : y = ⟨bs xs, xp, (xn : Int)⟩ := (by simpa using hy)
                                    exact HSt1.out
                                · show _ = _
                                  rw [HMm.out]
                                  rw [show kS - (lS ++ [(⟨bs xs, xp, (xn : Int)⟩ : PSub)]).length = m by have := HMK.out; rw [List.length_append]; simp; omega]
                              case measure => simp [intOf]; omega
                      · have ck : decide ((lS.length : Int) < (kS : Int)) = false := by rw [decide_eq_false_iff_not]; omega
                        have ck2 : decide (lS.length < kS) = false := decide_eq_false hlt
                        have hmm := HM.out
                        rw [show kS - lS.length = 0 by omega] at hmm
                        have hx := HX13.out
                        rw [hmm, manyR, bind_some] at hx
                        simp only [] at hx
                        have HX14 := Lib.hid hx
                        clear hmm hx HM
                        obtain ⟨w14, hwx⟩ : ∃ x, x = wr := ⟨_, rfl⟩
                        subst hwx
                        have HA14 := HA
                        have HD14 := HD
                        have HT14 := HT
                        have HG14 := HG
                        have HRS_14 := HO
                        have HSMS := HSm
                        have HRA_14 := HRA
                        have hc15 := rnumber_k R (bs t) 8 8 rfl w14 HD14.out (fit_bs HT14.out) (by decide)
                        cases ho15 : numR 8 t with
                        | none =>
                          rw [bl_bs, ho15] at hc15
                          have HN : Hid (decR pr t0 = none) := by show _ = _; rw [HX14.out, ho15]; rfl
                          have HC := Lib.hid hc15
                          clear hc15 ho15
                          go_wp2_with fail
                          (with_reducible refine HC.out.mono ?_)
                          rintro e wz ⟨rfl, hg⟩
                          go_wp2_with fail
                          exact ⟨rfl, by rw [HN.out]; exact ⟨rfl, gTrans HG14.out hg⟩⟩
                        | some x15 =>
                          obtain ⟨kI, uI⟩ := x15
                          rw [bl_bs, ho15] at hc15
                          have HC := Lib.hid hc15
                          have hx := HX14.out
                          rw [ho15, bind_some] at hx
                          simp only [] at hx
                          have HX15 := Lib.hid hx
                          obtain ⟨hf, hle⟩ := num_fit ho15 HT14.out
                          have HT15 := Lib.hid hf
                          have HL15 := Lib.hid hle
                          clear hf hle
                          have hkI : kI ≤ 8 := HL15.out
                          clear hc15 ho15 hx HX14
                          go_wp2_with fail
                          (with_reducible refine HC.out.mono ?_)
                          rintro e w15 ⟨rfl, hrd, hg⟩
                          have HD15 := Lib.hid hrd
                          have HG15 := Lib.hid (gTrans HG14.out hg)
                          have HA15 := Lib.hid (HA14.out.gone hg HNE.out)
                          have HRA_15 := Lib.hid (HRA_14.out.gone hg ((HRA_14.out.ne HD14.out (by decide))))
                          have HRS_15 := Lib.hid (HRS_14.out.gone hg ((HRS_14.out.ne HD14.out (by decide))))
                          clear hrd hg HC HD14 HG14 HA14
                          go_upto_region 12 with fail
                          go_loopw [54] (fun iv W => ∃ (lI : List PItem) (aI : Option Addr) (cI : Nat) (t : List UInt8), lI.length ≤ kI ∧ iv = .int .i64 lI.length ∧ Hid (OwE PItem.enc 3 W w.heap.size 53 (.slice aI lI.length cI) lI) ∧ Hid (RowI W w.heap.size 27 8 [.string (bs nm), .bool cl, .int .u8 (ac : Int), .int .i64 (mx : Int), .slice aA lA.length cA, .slice aS lS.length cS, .slice aI lI.length cI, .string (bs pa)]) ∧ Hid (Rd W R (bs t)) ∧ Hid (Fit t) ∧ Hid (w.grownBy W (some R)) ∧ Hid (∀ x ∈ lI, Sm x.id ∧ Sm x.pub ∧ Sm x.text) ∧ Hid (manyR itemR kI [] uI = manyR itemR (kI - lI.length) lI t) ∧ Hid (OwE PAff.enc 2 W w.heap.size 49 (.slice aA lA.length cA) lA) ∧ Hid (OwE PSub.enc 3 W w.heap.size 51 (.slice aS lS.length cS) lS)) (fun iv _ => kI - (intOf iv).toNat)
                          case atStart => exact ⟨[], none, 0, uI, Nat.zero_le _, rfl, World.ownsRow_nil _ _ _ _, HA15.out, HD15.out, HT15.out, HG15.out, fun _ h => (by cases h), rfl, HRA_15.out, HRS_15.out⟩
                          case round =>
                            obtain ⟨lI, aI, cI, t, hal, rfl, HO, HA, HD, HT, HG, HSm, HM, HRA, HRS⟩ := hrel
                            have hm1 : lI.length ≤ 8 := Nat.le_trans hal hkI
                            by_cases hlt : lI.length < kI
                            · have ck : decide ((lI.length : Int) < (kI : Int)) = true := by rw [decide_eq_true_eq]; omega
                              have ck2 : decide (lI.length < kI) = true := decide_eq_true hlt
                              have hmm := HM.out
                              obtain ⟨m, hmk⟩ : ∃ m, kI - lI.length = m + 1 := ⟨kI - lI.length - 1, by omega⟩
                              rw [hmk, manyR_b, itemR_b] at hmm
                              simp only [bind_assoc, bind_some] at hmm
                              have HMm := Lib.hid hmm
                              have HMK := Lib.hid hmk
                              clear hmm hmk
                              have c4 := HA.out.at 6 _ rfl
                              have hdr : Below wr.heap.size wr wr.drew := (Below.refl _ _).drew
                              have HDy0 := Lib.hid (HD.out.below hdr)
                              have HGy0 := Lib.hid (gTrans HG.out (gBelow hdr (some R)))
                              have HAy0 := Lib.hid (HA.out.below hdr)
                              have HOy0 := Lib.hid (HO.out.below hdr)
                              have HRAy0 := Lib.hid (HRA.out.below hdr)
                              have HRSy0 := Lib.hid (HRS.out.below hdr)
                              clear hdr
                              cases ho0 : wordR t with
                              | none =>
                                have HN : Hid (decR pr t0 = none) := by
                                  show _ = _
                                  rw [HX15.out, HMm.out, ho0]
                                  rfl
                                have HOO0 := Lib.hid ho0
                                have hcc := rword_any R (bs t) wr.drew HDy0.out (fit_bs HT.out)
                                rw [bl_bs, HOO0.out] at hcc
                                have HC0 := Lib.hid hcc
                                clear hcc ho0
                                go_upto_region 13 with fail
                                refine wp_region_D (fun W => W.cell? ⟨w.heap.size, 6, none⟩ = some (.slice aI lI.length cI)) [10, 12] mixed c4 (fun hHeld => ?_)
                                first
                                  | (refine wpAnyD_pure (i := 0) (oi := { dst := _, op := _, type := _, pos := _, after := _, guard := _ }) (v := _) rfl (by kernel_rfl) (by kernel_rfl) (by kernel_rfl) (fun _ _ _ h => h) (Or.inr ⟨by rfl, rfl⟩) hHeld (by decide) ?_; (try simp only [Act.put, List.setIfInBounds_toArray, List.set_cons_zero, List.set_cons_succ]))
                                  | (refine wpAnyD_pure (i := 0) (oi := { dst := _, op := _, type := _, pos := _, after := _, guard := _ }) (v := ?_) rfl (by kernel_rfl) (by kernel_rfl) (by kernel_rfl) (fun _ _ _ h => h) (Or.inl ⟨by rfl, ?_⟩) hHeld (by decide) ?_; rotate_left; (focus (intro wS hSw; (try dsimp only at hSw); go_simp; (try with_reducible rfl); done)); (try simp only [Act.put, List.setIfInBounds_toArray, List.set_cons_zero, List.set_cons_succ]))
                                refine wpAnyD_take (i := 1) (oi := { dst := _, op := _, type := _, pos := _, after := _, guard := _ }) (v := ?_) rfl (by kernel_rfl) (by kernel_rfl) (by kernel_rfl) (fun _ _ _ h => h) (Or.inl ⟨by rfl, ?_⟩) hHeld (by kernel_rfl) ?_; rotate_left; (focus (intro wS hSw; (skip); go_simp; (try with_reducible rfl); done)); (try simp only [Act.put, List.setIfInBounds_toArray, List.set_cons_zero, List.set_cons_succ])
                                first
                                  | (refine wpAnyD_pure (i := 2) (oi := { dst := _, op := _, type := _, pos := _, after := _, guard := _ }) (v := _) rfl (by kernel_rfl) (by kernel_rfl) (by kernel_rfl) (fun _ _ _ h => h) (Or.inr ⟨by rfl, rfl⟩) hHeld (by decide) ?_; (try simp only [Act.put, List.setIfInBounds_toArray, List.set_cons_zero, List.set_cons_succ]))
                                  | (refine wpAnyD_pure (i := 2) (oi := { dst := _, op := _, type := _, pos := _, after := _, guard := _ }) (v := ?_) rfl (by kernel_rfl) (by kernel_rfl) (by kernel_rfl) (fun _ _ _ h => h) (Or.inl ⟨by rfl, ?_⟩) hHeld (by decide) ?_; rotate_left; (focus (intro wS hSw; (try dsimp only at hSw); go_simp; (try with_reducible rfl); done)); (try simp only [Act.put, List.setIfInBounds_toArray, List.set_cons_zero, List.set_cons_succ]))
                                first
                                  | (refine wpAnyD_pure (i := 4) (oi := { dst := _, op := _, type := _, pos := _, after := _, guard := _ }) (v := _) rfl (by kernel_rfl) (by kernel_rfl) (by kernel_rfl) (fun _ _ _ h => h) (Or.inr ⟨by rfl, rfl⟩) hHeld (by decide) ?_; (try simp only [Act.put, List.setIfInBounds_toArray, List.set_cons_zero, List.set_cons_succ]))
                                  | (refine wpAnyD_pure (i := 4) (oi := { dst := _, op := _, type := _, pos := _, after := _, guard := _ }) (v := ?_) rfl (by kernel_rfl) (by kernel_rfl) (by kernel_rfl) (fun _ _ _ h => h) (Or.inl ⟨by rfl, ?_⟩) hHeld (by decide) ?_; rotate_left; (focus (intro wS hSw; (try dsimp only at hSw); go_simp; (try with_reducible rfl); done)); (try simp only [Act.put, List.setIfInBounds_toArray, List.set_cons_zero, List.set_cons_succ]))
                                first
                                  | (refine wpAnyD_pure (i := 6) (oi := { dst := _, op := _, type := _, pos := _, after := _, guard := _ }) (v := _) rfl (by kernel_rfl) (by kernel_rfl) (by kernel_rfl) (fun _ _ _ h => h) (Or.inr ⟨by rfl, rfl⟩) hHeld (by decide) ?_; (try simp only [Act.put, List.setIfInBounds_toArray, List.set_cons_zero, List.set_cons_succ]))
                                  | (refine wpAnyD_pure (i := 6) (oi := { dst := _, op := _, type := _, pos := _, after := _, guard := _ }) (v := ?_) rfl (by kernel_rfl) (by kernel_rfl) (by kernel_rfl) (fun _ _ _ h => h) (Or.inl ⟨by rfl, ?_⟩) hHeld (by decide) ?_; rotate_left; (focus (intro wS hSw; (try dsimp only at hSw); go_simp; (try with_reducible rfl); done)); (try simp only [Act.put, List.setIfInBounds_toArray, List.set_cons_zero, List.set_cons_succ]))
                                refine wpAnyD_ready (rs := [3]) (by kernel_rfl) (by simp) ?_
                                refine AllReadyD.cons (o := { dst := _, op := _, type := _, pos := _, after := _, guard := _ }) rfl (fun K hK => ?_) AllReadyD.nil
                                go_simp
                                (with_reducible refine HC0.out.mono ?_)
                                rintro e wz ⟨rfl, hg⟩
                                go_wp2_with fail
                                exact ⟨rfl, by rw [HN.out]; exact ⟨rfl, gTrans HGy0.out hg⟩⟩
                              | some xx =>
                                obtain ⟨xs, t1x⟩ := xx
                                have HOO0 := Lib.hid ho0
                                have hmm := HMm.out
                                rw [ho0, bind_some] at hmm
                                simp only [] at hmm
                                have HMm := Lib.hid hmm
                                obtain ⟨hf, hlt⟩ := word_fit ho0 HT.out
                                have HTt1 := Lib.hid hf
                                have HSt1 := Lib.hid (of_lt hlt)
                                clear hf hlt
                                clear hmm ho0
                                cases ho1 : wordR t1x with
                                | none =>
                                  have HN : Hid (decR pr t0 = none) := by
                                    show _ = _
                                    rw [HX15.out, HMm.out, ho1]
                                    rfl
                                  have HOO1 := Lib.hid ho1
                                  have hcc := rword_any R (bs t) wr.drew HDy0.out (fit_bs HT.out)
                                  rw [bl_bs, HOO0.out] at hcc
                                  have HC0 := Lib.hid hcc
                                  clear hcc ho1
                                  go_upto_region 13 with fail
                                  refine wp_region_D (fun W => W.cell? ⟨w.heap.size, 6, none⟩ = some (.slice aI lI.length cI)) [10, 12] mixed c4 (fun hHeld => ?_)
                                  first
                                    | (refine wpAnyD_pure (i := 0) (oi := { dst := _, op := _, type := _, pos := _, after := _, guard := _ }) (v := _) rfl (by kernel_rfl) (by kernel_rfl) (by kernel_rfl) (fun _ _ _ h => h) (Or.inr ⟨by rfl, rfl⟩) hHeld (by decide) ?_; (try simp only [Act.put, List.setIfInBounds_toArray, List.set_cons_zero, List.set_cons_succ]))
                                    | (refine wpAnyD_pure (i := 0) (oi := { dst := _, op := _, type := _, pos := _, after := _, guard := _ }) (v := ?_) rfl (by kernel_rfl) (by kernel_rfl) (by kernel_rfl) (fun _ _ _ h => h) (Or.inl ⟨by rfl, ?_⟩) hHeld (by decide) ?_; rotate_left; (focus (intro wS hSw; (try dsimp only at hSw); go_simp; (try with_reducible rfl); done)); (try simp only [Act.put, List.setIfInBounds_toArray, List.set_cons_zero, List.set_cons_succ]))
                                  refine wpAnyD_take (i := 1) (oi := { dst := _, op := _, type := _, pos := _, after := _, guard := _ }) (v := ?_) rfl (by kernel_rfl) (by kernel_rfl) (by kernel_rfl) (fun _ _ _ h => h) (Or.inl ⟨by rfl, ?_⟩) hHeld (by kernel_rfl) ?_; rotate_left; (focus (intro wS hSw; (skip); go_simp; (try with_reducible rfl); done)); (try simp only [Act.put, List.setIfInBounds_toArray, List.set_cons_zero, List.set_cons_succ])
                                  first
                                    | (refine wpAnyD_pure (i := 2) (oi := { dst := _, op := _, type := _, pos := _, after := _, guard := _ }) (v := _) rfl (by kernel_rfl) (by kernel_rfl) (by kernel_rfl) (fun _ _ _ h => h) (Or.inr ⟨by rfl, rfl⟩) hHeld (by decide) ?_; (try simp only [Act.put, List.setIfInBounds_toArray, List.set_cons_zero, List.set_cons_succ]))
                                    | (refine wpAnyD_pure (i := 2) (oi := { dst := _, op := _, type := _, pos := _, after := _, guard := _ }) (v := ?_) rfl (by kernel_rfl) (by kernel_rfl) (by kernel_rfl) (fun _ _ _ h => h) (Or.inl ⟨by rfl, ?_⟩) hHeld (by decide) ?_; rotate_left; (focus (intro wS hSw; (try dsimp only at hSw); go_simp; (try with_reducible rfl); done)); (try simp only [Act.put, List.setIfInBounds_toArray, List.set_cons_zero, List.set_cons_succ]))
                                  first
                                    | (refine wpAnyD_pure (i := 4) (oi := { dst := _, op := _, type := _, pos := _, after := _, guard := _ }) (v := _) rfl (by kernel_rfl) (by kernel_rfl) (by kernel_rfl) (fun _ _ _ h => h) (Or.inr ⟨by rfl, rfl⟩) hHeld (by decide) ?_; (try simp only [Act.put, List.setIfInBounds_toArray, List.set_cons_zero, List.set_cons_succ]))
                                    | (refine wpAnyD_pure (i := 4) (oi := { dst := _, op := _, type := _, pos := _, after := _, guard := _ }) (v := ?_) rfl (by kernel_rfl) (by kernel_rfl) (by kernel_rfl) (fun _ _ _ h => h) (Or.inl ⟨by rfl, ?_⟩) hHeld (by decide) ?_; rotate_left; (focus (intro wS hSw; (try dsimp only at hSw); go_simp; (try with_reducible rfl); done)); (try simp only [Act.put, List.setIfInBounds_toArray, List.set_cons_zero, List.set_cons_succ]))
                                  first
                                    | (refine wpAnyD_pure (i := 6) (oi := { dst := _, op := _, type := _, pos := _, after := _, guard := _ }) (v := _) rfl (by kernel_rfl) (by kernel_rfl) (by kernel_rfl) (fun _ _ _ h => h) (Or.inr ⟨by rfl, rfl⟩) hHeld (by decide) ?_; (try simp only [Act.put, List.setIfInBounds_toArray, List.set_cons_zero, List.set_cons_succ]))
                                    | (refine wpAnyD_pure (i := 6) (oi := { dst := _, op := _, type := _, pos := _, after := _, guard := _ }) (v := ?_) rfl (by kernel_rfl) (by kernel_rfl) (by kernel_rfl) (fun _ _ _ h => h) (Or.inl ⟨by rfl, ?_⟩) hHeld (by decide) ?_; rotate_left; (focus (intro wS hSw; (try dsimp only at hSw); go_simp; (try with_reducible rfl); done)); (try simp only [Act.put, List.setIfInBounds_toArray, List.set_cons_zero, List.set_cons_succ]))
                                  refine wpAnyD_ready (rs := [3]) (by kernel_rfl) (by simp) ?_
                                  refine AllReadyD.cons (o := { dst := _, op := _, type := _, pos := _, after := _, guard := _ }) rfl (fun K hK => ?_) AllReadyD.nil
                                  go_simp
                                  (with_reducible refine HC0.out.mono ?_)
                                  rintro e y1 ⟨rfl, hrd, hg⟩
                                  have HDy1 := Lib.hid hrd
                                  have HGy1 := Lib.hid (gTrans HGy0.out hg)
                                  have HAy1 := Lib.hid (HAy0.out.gone hg HNE.out)
                                  have HOy1 := Lib.hid (HOy0.out.gone hg (HOy0.out.ne HDy0.out (by decide)))
                                  have HRAy1 := Lib.hid (HRAy0.out.gone hg (HRAy0.out.ne HDy0.out (by decide)))
                                  have HRSy1 := Lib.hid (HRSy0.out.gone hg (HRSy0.out.ne HDy0.out (by decide)))
                                  clear hrd hg
                                  have hcc := rword_any R (bs t1x) y1 HDy1.out (fit_bs HTt1.out)
                                  rw [bl_bs, HOO1.out] at hcc
                                  have HC1 := Lib.hid hcc
                                  clear hcc
                                  go_wp2_with fail
                                  refine hK.out _ _ ?_ (fun hHeld => ?_)
                                  focus (exact HAy1.out.at 6 _ rfl)
                                  clear hK K
                                  (try simp only [Act.put, List.setIfInBounds_toArray, List.set_cons_zero, List.set_cons_succ])
                                  refine wpAnyD_ready (rs := [5]) (by kernel_rfl) (by simp) ?_
                                  refine AllReadyD.cons (o := { dst := _, op := _, type := _, pos := _, after := _, guard := _ }) rfl (fun K hK => ?_) AllReadyD.nil
                                  go_simp
                                  (with_reducible refine HC1.out.mono ?_)
                                  rintro e wz ⟨rfl, hg⟩
                                  go_wp2_with fail
                                  exact ⟨rfl, by rw [HN.out]; exact ⟨rfl, gTrans HGy1.out hg⟩⟩
                                | some xx =>
                                  obtain ⟨xp, t2x⟩ := xx
                                  have HOO1 := Lib.hid ho1
                                  have hmm := HMm.out
                                  rw [ho1, bind_some] at hmm
                                  simp only [] at hmm
                                  have HMm := Lib.hid hmm
                                  obtain ⟨hf, hlt⟩ := word_fit ho1 HTt1.out
                                  have HTt2 := Lib.hid hf
                                  have HSt2 := Lib.hid (of_lt hlt)
                                  clear hf hlt
                                  clear hmm ho1
                                  cases ho2 : wordR t2x with
                                  | none =>
                                    have HN : Hid (decR pr t0 = none) := by
                                      show _ = _
                                      rw [HX15.out, HMm.out, ho2]
                                      rfl
                                    have HOO2 := Lib.hid ho2
                                    have hcc := rword_any R (bs t) wr.drew HDy0.out (fit_bs HT.out)
                                    rw [bl_bs, HOO0.out] at hcc
                                    have HC0 := Lib.hid hcc
                                    clear hcc ho2
                                    go_upto_region 13 with fail
                                    refine wp_region_D (fun W => W.cell? ⟨w.heap.size, 6, none⟩ = some (.slice aI lI.length cI)) [10, 12] mixed c4 (fun hHeld => ?_)
                                    first
                                      | (refine wpAnyD_pure (i := 0) (oi := { dst := _, op := _, type := _, pos := _, after := _, guard := _ }) (v := _) rfl (by kernel_rfl) (by kernel_rfl) (by kernel_rfl) (fun _ _ _ h => h) (Or.inr ⟨by rfl, rfl⟩) hHeld (by decide) ?_; (try simp only [Act.put, List.setIfInBounds_toArray, List.set_cons_zero, List.set_cons_succ]))
                                      | (refine wpAnyD_pure (i := 0) (oi := { dst := _, op := _, type := _, pos := _, after := _, guard := _ }) (v := ?_) rfl (by kernel_rfl) (by kernel_rfl) (by kernel_rfl) (fun _ _ _ h => h) (Or.inl ⟨by rfl, ?_⟩) hHeld (by decide) ?_; rotate_left; (focus (intro wS hSw; (try dsimp only at hSw); go_simp; (try with_reducible rfl); done)); (try simp only [Act.put, List.setIfInBounds_toArray, List.set_cons_zero, List.set_cons_succ]))
                                    refine wpAnyD_take (i := 1) (oi := { dst := _, op := _, type := _, pos := _, after := _, guard := _ }) (v := ?_) rfl (by kernel_rfl) (by kernel_rfl) (by kernel_rfl) (fun _ _ _ h => h) (Or.inl ⟨by rfl, ?_⟩) hHeld (by kernel_rfl) ?_; rotate_left; (focus (intro wS hSw; (skip); go_simp; (try with_reducible rfl); done)); (try simp only [Act.put, List.setIfInBounds_toArray, List.set_cons_zero, List.set_cons_succ])
                                    first
                                      | (refine wpAnyD_pure (i := 2) (oi := { dst := _, op := _, type := _, pos := _, after := _, guard := _ }) (v := _) rfl (by kernel_rfl) (by kernel_rfl) (by kernel_rfl) (fun _ _ _ h => h) (Or.inr ⟨by rfl, rfl⟩) hHeld (by decide) ?_; (try simp only [Act.put, List.setIfInBounds_toArray, List.set_cons_zero, List.set_cons_succ]))
                                      | (refine wpAnyD_pure (i := 2) (oi := { dst := _, op := _, type := _, pos := _, after := _, guard := _ }) (v := ?_) rfl (by kernel_rfl) (by kernel_rfl) (by kernel_rfl) (fun _ _ _ h => h) (Or.inl ⟨by rfl, ?_⟩) hHeld (by decide) ?_; rotate_left; (focus (intro wS hSw; (try dsimp only at hSw); go_simp; (try with_reducible rfl); done)); (try simp only [Act.put, List.setIfInBounds_toArray, List.set_cons_zero, List.set_cons_succ]))
                                    first
                                      | (refine wpAnyD_pure (i := 4) (oi := { dst := _, op := _, type := _, pos := _, after := _, guard := _ }) (v := _) rfl (by kernel_rfl) (by kernel_rfl) (by kernel_rfl) (fun _ _ _ h => h) (Or.inr ⟨by rfl, rfl⟩) hHeld (by decide) ?_; (try simp only [Act.put, List.setIfInBounds_toArray, List.set_cons_zero, List.set_cons_succ]))
                                      | (refine wpAnyD_pure (i := 4) (oi := { dst := _, op := _, type := _, pos := _, after := _, guard := _ }) (v := ?_) rfl (by kernel_rfl) (by kernel_rfl) (by kernel_rfl) (fun _ _ _ h => h) (Or.inl ⟨by rfl, ?_⟩) hHeld (by decide) ?_; rotate_left; (focus (intro wS hSw; (try dsimp only at hSw); go_simp; (try with_reducible rfl); done)); (try simp only [Act.put, List.setIfInBounds_toArray, List.set_cons_zero, List.set_cons_succ]))
                                    first
                                      | (refine wpAnyD_pure (i := 6) (oi := { dst := _, op := _, type := _, pos := _, after := _, guard := _ }) (v := _) rfl (by kernel_rfl) (by kernel_rfl) (by kernel_rfl) (fun _ _ _ h => h) (Or.inr ⟨by rfl, rfl⟩) hHeld (by decide) ?_; (try simp only [Act.put, List.setIfInBounds_toArray, List.set_cons_zero, List.set_cons_succ]))
                                      | (refine wpAnyD_pure (i := 6) (oi := { dst := _, op := _, type := _, pos := _, after := _, guard := _ }) (v := ?_) rfl (by kernel_rfl) (by kernel_rfl) (by kernel_rfl) (fun _ _ _ h => h) (Or.inl ⟨by rfl, ?_⟩) hHeld (by decide) ?_; rotate_left; (focus (intro wS hSw; (try dsimp only at hSw); go_simp; (try with_reducible rfl); done)); (try simp only [Act.put, List.setIfInBounds_toArray, List.set_cons_zero, List.set_cons_succ]))
                                    refine wpAnyD_ready (rs := [3]) (by kernel_rfl) (by simp) ?_
                                    refine AllReadyD.cons (o := { dst := _, op := _, type := _, pos := _, after := _, guard := _ }) rfl (fun K hK => ?_) AllReadyD.nil
                                    go_simp
                                    (with_reducible refine HC0.out.mono ?_)
                                    rintro e y1 ⟨rfl, hrd, hg⟩
                                    have HDy1 := Lib.hid hrd
                                    have HGy1 := Lib.hid (gTrans HGy0.out hg)
                                    have HAy1 := Lib.hid (HAy0.out.gone hg HNE.out)
                                    have HOy1 := Lib.hid (HOy0.out.gone hg (HOy0.out.ne HDy0.out (by decide)))
                                    have HRAy1 := Lib.hid (HRAy0.out.gone hg (HRAy0.out.ne HDy0.out (by decide)))
                                    have HRSy1 := Lib.hid (HRSy0.out.gone hg (HRSy0.out.ne HDy0.out (by decide)))
                                    clear hrd hg
                                    have hcc := rword_any R (bs t1x) y1 HDy1.out (fit_bs HTt1.out)
                                    rw [bl_bs, HOO1.out] at hcc
                                    have HC1 := Lib.hid hcc
                                    clear hcc
                                    go_wp2_with fail
                                    refine hK.out _ _ ?_ (fun hHeld => ?_)
                                    focus (exact HAy1.out.at 6 _ rfl)
                                    clear hK K
                                    (try simp only [Act.put, List.setIfInBounds_toArray, List.set_cons_zero, List.set_cons_succ])
                                    refine wpAnyD_ready (rs := [5]) (by kernel_rfl) (by simp) ?_
                                    refine AllReadyD.cons (o := { dst := _, op := _, type := _, pos := _, after := _, guard := _ }) rfl (fun K hK => ?_) AllReadyD.nil
                                    go_simp
                                    (with_reducible refine HC1.out.mono ?_)
                                    rintro e y2 ⟨rfl, hrd, hg⟩
                                    have HDy2 := Lib.hid hrd
                                    have HGy2 := Lib.hid (gTrans HGy1.out hg)
                                    have HAy2 := Lib.hid (HAy1.out.gone hg HNE.out)
                                    have HOy2 := Lib.hid (HOy1.out.gone hg (HOy1.out.ne HDy1.out (by decide)))
                                    have HRAy2 := Lib.hid (HRAy1.out.gone hg (HRAy1.out.ne HDy1.out (by decide)))
                                    have HRSy2 := Lib.hid (HRSy1.out.gone hg (HRSy1.out.ne HDy1.out (by decide)))
                                    clear hrd hg
                                    have hcc := rword_any R (bs t2x) y2 HDy2.out (fit_bs HTt2.out)
                                    rw [bl_bs, HOO2.out] at hcc
                                    have HC2 := Lib.hid hcc
                                    clear hcc
                                    go_wp2_with fail
                                    refine hK.out _ _ ?_ (fun hHeld => ?_)
                                    focus (exact HAy2.out.at 6 _ rfl)
                                    clear hK K
                                    (try simp only [Act.put, List.setIfInBounds_toArray, List.set_cons_zero, List.set_cons_succ])
                                    refine wpAnyD_ready (rs := [7]) (by kernel_rfl) (by simp) ?_
                                    refine AllReadyD.cons (o := { dst := _, op := _, type := _, pos := _, after := _, guard := _ }) rfl (fun K hK => ?_) AllReadyD.nil
                                    go_simp
                                    (with_reducible refine HC2.out.mono ?_)
                                    rintro e wz ⟨rfl, hg⟩
                                    go_wp2_with fail
                                    exact ⟨rfl, by rw [HN.out]; exact ⟨rfl, gTrans HGy2.out hg⟩⟩
                                  | some xx =>
                                    obtain ⟨xn, t3x⟩ := xx
                                    have HOO2 := Lib.hid ho2
                                    have hmm := HMm.out
                                    rw [ho2, bind_some] at hmm
                                    simp only [] at hmm
                                    have HMm := Lib.hid hmm
                                    obtain ⟨hf, hlt⟩ := word_fit ho2 HTt2.out
                                    have HTt3 := Lib.hid hf
                                    have HSt3 := Lib.hid (of_lt hlt)
                                    clear hf hlt
                                    clear hmm ho2
                                    have hcc := rword_any R (bs t) wr.drew HDy0.out (fit_bs HT.out)
                                    rw [bl_bs, HOO0.out] at hcc
                                    have HC0 := Lib.hid hcc
                                    clear hcc
                                    go_upto_region 13 with fail
                                    refine wp_region_D (fun W => W.cell? ⟨w.heap.size, 6, none⟩ = some (.slice aI lI.length cI)) [10, 12] mixed c4 (fun hHeld => ?_)
                                    first
                                      | (refine wpAnyD_pure (i := 0) (oi := { dst := _, op := _, type := _, pos := _, after := _, guard := _ }) (v := _) rfl (by kernel_rfl) (by kernel_rfl) (by kernel_rfl) (fun _ _ _ h => h) (Or.inr ⟨by rfl, rfl⟩) hHeld (by decide) ?_; (try simp only [Act.put, List.setIfInBounds_toArray, List.set_cons_zero, List.set_cons_succ]))
                                      | (refine wpAnyD_pure (i := 0) (oi := { dst := _, op := _, type := _, pos := _, after := _, guard := _ }) (v := ?_) rfl (by kernel_rfl) (by kernel_rfl) (by kernel_rfl) (fun _ _ _ h => h) (Or.inl ⟨by rfl, ?_⟩) hHeld (by decide) ?_; rotate_left; (focus (intro wS hSw; (try dsimp only at hSw); go_simp; (try with_reducible rfl); done)); (try simp only [Act.put, List.setIfInBounds_toArray, List.set_cons_zero, List.set_cons_succ]))
                                    refine wpAnyD_take (i := 1) (oi := { dst := _, op := _, type := _, pos := _, after := _, guard := _ }) (v := ?_) rfl (by kernel_rfl) (by kernel_rfl) (by kernel_rfl) (fun _ _ _ h => h) (Or.inl ⟨by rfl, ?_⟩) hHeld (by kernel_rfl) ?_; rotate_left; (focus (intro wS hSw; (skip); go_simp; (try with_reducible rfl); done)); (try simp only [Act.put, List.setIfInBounds_toArray, List.set_cons_zero, List.set_cons_succ])
                                    first
                                      | (refine wpAnyD_pure (i := 2) (oi := { dst := _, op := _, type := _, pos := _, after := _, guard := _ }) (v := _) rfl (by kernel_rfl) (by kernel_rfl) (by kernel_rfl) (fun _ _ _ h => h) (Or.inr ⟨by rfl, rfl⟩) hHeld (by decide) ?_; (try simp only [Act.put, List.setIfInBounds_toArray, List.set_cons_zero, List.set_cons_succ]))
                                      | (refine wpAnyD_pure (i := 2) (oi := { dst := _, op := _, type := _, pos := _, after := _, guard := _ }) (v := ?_) rfl (by kernel_rfl) (by kernel_rfl) (by kernel_rfl) (fun _ _ _ h => h) (Or.inl ⟨by rfl, ?_⟩) hHeld (by decide) ?_; rotate_left; (focus (intro wS hSw; (try dsimp only at hSw); go_simp; (try with_reducible rfl); done)); (try simp only [Act.put, List.setIfInBounds_toArray, List.set_cons_zero, List.set_cons_succ]))
                                    first
                                      | (refine wpAnyD_pure (i := 4) (oi := { dst := _, op := _, type := _, pos := _, after := _, guard := _ }) (v := _) rfl (by kernel_rfl) (by kernel_rfl) (by kernel_rfl) (fun _ _ _ h => h) (Or.inr ⟨by rfl, rfl⟩) hHeld (by decide) ?_; (try simp only [Act.put, List.setIfInBounds_toArray, List.set_cons_zero, List.set_cons_succ]))
                                      | (refine wpAnyD_pure (i := 4) (oi := { dst := _, op := _, type := _, pos := _, after := _, guard := _ }) (v := ?_) rfl (by kernel_rfl) (by kernel_rfl) (by kernel_rfl) (fun _ _ _ h => h) (Or.inl ⟨by rfl, ?_⟩) hHeld (by decide) ?_; rotate_left; (focus (intro wS hSw; (try dsimp only at hSw); go_simp; (try with_reducible rfl); done)); (try simp only [Act.put, List.setIfInBounds_toArray, List.set_cons_zero, List.set_cons_succ]))
                                    first
                                      | (refine wpAnyD_pure (i := 6) (oi := { dst := _, op := _, type := _, pos := _, after := _, guard := _ }) (v := _) rfl (by kernel_rfl) (by kernel_rfl) (by kernel_rfl) (fun _ _ _ h => h) (Or.inr ⟨by rfl, rfl⟩) hHeld (by decide) ?_; (try simp only [Act.put, List.setIfInBounds_toArray, List.set_cons_zero, List.set_cons_succ]))
                                      | (refine wpAnyD_pure (i := 6) (oi := { dst := _, op := _, type := _, pos := _, after := _, guard := _ }) (v := ?_) rfl (by kernel_rfl) (by kernel_rfl) (by kernel_rfl) (fun _ _ _ h => h) (Or.inl ⟨by rfl, ?_⟩) hHeld (by decide) ?_; rotate_left; (focus (intro wS hSw; (try dsimp only at hSw); go_simp; (try with_reducible rfl); done)); (try simp only [Act.put, List.setIfInBounds_toArray, List.set_cons_zero, List.set_cons_succ]))
                                    refine wpAnyD_ready (rs := [3]) (by kernel_rfl) (by simp) ?_
                                    refine AllReadyD.cons (o := { dst := _, op := _, type := _, pos := _, after := _, guard := _ }) rfl (fun K hK => ?_) AllReadyD.nil
                                    go_simp
                                    (with_reducible refine HC0.out.mono ?_)
                                    rintro e y1 ⟨rfl, hrd, hg⟩
                                    have HDy1 := Lib.hid hrd
                                    have HGy1 := Lib.hid (gTrans HGy0.out hg)
                                    have HAy1 := Lib.hid (HAy0.out.gone hg HNE.out)
                                    have HOy1 := Lib.hid (HOy0.out.gone hg (HOy0.out.ne HDy0.out (by decide)))
                                    have HRAy1 := Lib.hid (HRAy0.out.gone hg (HRAy0.out.ne HDy0.out (by decide)))
                                    have HRSy1 := Lib.hid (HRSy0.out.gone hg (HRSy0.out.ne HDy0.out (by decide)))
                                    clear hrd hg
                                    have hcc := rword_any R (bs t1x) y1 HDy1.out (fit_bs HTt1.out)
                                    rw [bl_bs, HOO1.out] at hcc
                                    have HC1 := Lib.hid hcc
                                    clear hcc
                                    go_wp2_with fail
                                    refine hK.out _ _ ?_ (fun hHeld => ?_)
                                    focus (exact HAy1.out.at 6 _ rfl)
                                    clear hK K
                                    (try simp only [Act.put, List.setIfInBounds_toArray, List.set_cons_zero, List.set_cons_succ])
                                    refine wpAnyD_ready (rs := [5]) (by kernel_rfl) (by simp) ?_
                                    refine AllReadyD.cons (o := { dst := _, op := _, type := _, pos := _, after := _, guard := _ }) rfl (fun K hK => ?_) AllReadyD.nil
                                    go_simp
                                    (with_reducible refine HC1.out.mono ?_)
                                    rintro e y2 ⟨rfl, hrd, hg⟩
                                    have HDy2 := Lib.hid hrd
                                    have HGy2 := Lib.hid (gTrans HGy1.out hg)
                                    have HAy2 := Lib.hid (HAy1.out.gone hg HNE.out)
                                    have HOy2 := Lib.hid (HOy1.out.gone hg (HOy1.out.ne HDy1.out (by decide)))
                                    have HRAy2 := Lib.hid (HRAy1.out.gone hg (HRAy1.out.ne HDy1.out (by decide)))
                                    have HRSy2 := Lib.hid (HRSy1.out.gone hg (HRSy1.out.ne HDy1.out (by decide)))
                                    clear hrd hg
                                    have hcc := rword_any R (bs t2x) y2 HDy2.out (fit_bs HTt2.out)
                                    rw [bl_bs, HOO2.out] at hcc
                                    have HC2 := Lib.hid hcc
                                    clear hcc
                                    go_wp2_with fail
                                    refine hK.out _ _ ?_ (fun hHeld => ?_)
                                    focus (exact HAy2.out.at 6 _ rfl)
                                    clear hK K
                                    (try simp only [Act.put, List.setIfInBounds_toArray, List.set_cons_zero, List.set_cons_succ])
                                    refine wpAnyD_ready (rs := [7]) (by kernel_rfl) (by simp) ?_
                                    refine AllReadyD.cons (o := { dst := _, op := _, type := _, pos := _, after := _, guard := _ }) rfl (fun K hK => ?_) AllReadyD.nil
                                    go_simp
                                    (with_reducible refine HC2.out.mono ?_)
                                    rintro e y3 ⟨rfl, hrd, hg⟩
                                    have HDy3 := Lib.hid hrd
                                    have HGy3 := Lib.hid (gTrans HGy2.out hg)
                                    have HAy3 := Lib.hid (HAy2.out.gone hg HNE.out)
                                    have HOy3 := Lib.hid (HOy2.out.gone hg (HOy2.out.ne HDy2.out (by decide)))
                                    have HRAy3 := Lib.hid (HRAy2.out.gone hg (HRAy2.out.ne HDy2.out (by decide)))
                                    have HRSy3 := Lib.hid (HRSy2.out.gone hg (HRSy2.out.ne HDy2.out (by decide)))
                                    clear hrd hg
                                    go_wp2_with fail
                                    refine hK.out _ _ ?_ (fun hHeld => ?_)
                                    focus (exact HAy3.out.at 6 _ rfl)
                                    clear hK K
                                    (try simp only [Act.put, List.setIfInBounds_toArray, List.set_cons_zero, List.set_cons_succ])
                                    first
                                      | (refine wpAnyD_pure (i := 8) (oi := { dst := _, op := _, type := _, pos := _, after := _, guard := _ }) (v := _) rfl (by kernel_rfl) (by kernel_rfl) (by kernel_rfl) (fun _ _ _ h => h) (Or.inr ⟨by rfl, rfl⟩) hHeld (by decide) ?_; (try simp only [Act.put, List.setIfInBounds_toArray, List.set_cons_zero, List.set_cons_succ]))
                                      | (refine wpAnyD_pure (i := 8) (oi := { dst := _, op := _, type := _, pos := _, after := _, guard := _ }) (v := ?_) rfl (by kernel_rfl) (by kernel_rfl) (by kernel_rfl) (fun _ _ _ h => h) (Or.inl ⟨by rfl, ?_⟩) hHeld (by decide) ?_; rotate_left; (focus (intro wS hSw; (try dsimp only at hSw); go_simp; (try with_reducible rfl); done)); (try simp only [Act.put, List.setIfInBounds_toArray, List.set_cons_zero, List.set_cons_succ]))
                                    refine wpAnyD_ready (rs := [9]) (by kernel_rfl) (by simp) ?_
                                    refine AllReadyD.cons (o := { dst := _, op := _, type := _, pos := _, after := _, guard := _ }) rfl (fun K hK => ?_) AllReadyD.nil
                                    obtain ⟨yb, hyb, hbb, hrb, hsb⟩ := one y3 53 [.string (bs xs), .string (bs xp), .string (bs xn)]
                                    have HYB := Lib.hid hyb
                                    have HDb := Lib.hid (HDy3.out.below hbb)
                                    have HGb := Lib.hid (gTrans HGy3.out (gBelow hbb (some R)))
                                    have HAb := Lib.hid (HAy3.out.below hbb)
                                    have HOb := Lib.hid (HOy3.out.below hbb)
                                    have HRAb := Lib.hid (HRAy3.out.below hbb)
                                    have HRSb := Lib.hid (HRSy3.out.below hbb)
                                    have HCb := Lib.hid (fun (q : Nat) (u : Value) (hq : ([.string (bs xs), .string (bs xp), .string (bs xn)] : List Value)[q]? = some u) => (show yb.cell? ((⟨y3.heap.size, 0, none⟩ : Addr).add q) = some u by
                                      have ha : (⟨y3.heap.size, 0, none⟩ : Addr).add q = ⟨y3.heap.size, q, none⟩ := by unfold Addr.add; split <;> simp_all
                                      rw [ha]; exact hrb.at q u hq))
                                    obtain ⟨j0, hii, hz0, hz1, hz2⟩ := info_parts infoItem
                                    have HII := Lib.hid (And.intro hii (And.intro hz0 (And.intro hz1 hz2)))
                                    clear hyb hbb hrb hsb hii hz0 hz1 hz2
                                    go_simp
                                    rw [HYB.out]
                                    refine hK.out _ _ ?_ (fun hHeld => ?_)
                                    focus (exact HAb.out.at 6 _ rfl)
                                    clear hK K
                                    (try simp only [Act.put, List.setIfInBounds_toArray, List.set_cons_zero, List.set_cons_succ])
                                    refine wpAnyD_ready (rs := [10]) (by kernel_rfl) (by simp) ?_
                                    refine AllReadyD.last (o := { dst := _, op := _, type := _, pos := _, after := _, guard := _ }) rfl (by kernel_rfl) (fun K hK => ?_) AllReadyD.nil
                                    rw [if_pos (by rfl)]
                                    refine wp_append_own _ (.tmp 57) (.tmp 65) 25 rfl w.heap.size 53 j0 (.agg #[.string ⟨#[]⟩, .string ⟨#[]⟩, .string ⟨#[]⟩]) 3 48 Tryz.underlying25 HII.out.1 HII.out.2.1 HII.out.2.2.1 HII.out.2.2.2 rfl (by omega) (.slice aI lI.length cI) lI.length (lI.flatMap PItem.enc) rfl HOb.out ⟨y3.heap.size, 0, none⟩ 1 1 [.string (bs xs), .string (bs xp), .string (bs xn)] rfl rfl HCb.out ((fun u hu => by simp at hu; rcases hu with rfl | rfl | rfl <;> rfl)) (by simp only [maxLen]; omega) (by omega) HGb.out.size ?_
                                    intro v6 yc ho6 hg6 _
                                    obtain ⟨q6, k6, rfl⟩ := row_slice ho6
                                    have HO6 : Hid (OwE PItem.enc 3 yc w.heap.size 53 (.slice q6 (lI.length + 1) k6) (lI ++ [⟨bs xs, bs xp, bs xn⟩])) := by
                                      show OwE _ _ _ _ _ _ _
                                      unfold OwE
                                      rw [List.length_append, List.flatMap_append]
                                      simpa [PItem.enc] using ho6
                                    have hown : ∀ q, (Value.slice aI lI.length cI).ownBlock = some q → w.heap.size ≤ q := fun q e => (World.ownsRow.lt HOb.out q e).1
                                    have HGc := Lib.hid (gOut HGb.out hg6 hown)
                                    have HDc := Lib.hid (HDb.out.goneR hg6 (HOb.out.ne HDb.out (by decide)))
                                    have HAc := Lib.hid (HAb.out.goneR hg6 (HOb.out.ne HAb.out (by decide)))
                                    have HRAc := Lib.hid (HRAb.out.goneR hg6 (HRAb.out.apart HOb.out (by decide)))
                                    have HRSc := Lib.hid (HRSb.out.goneR hg6 (HRSb.out.apart HOb.out (by decide)))
                                    obtain ⟨yd, std, hrd, hgd, _⟩ := run_store_one (P := Tryz.prog) HAc.out 25 6 (.slice q6 (lI.length + 1) k6) (Tryz.sizeOf25 _) (by simp) rfl rfl
                                    have STd := Lib.hid std
                                    have HAd := Lib.hid hrd
                                    have HGd := Lib.hid (gOut1 HGc.out hgd (Nat.le_refl _))
                                    have HDd := Lib.hid (HDc.out.gone hgd (Ne.symm HNE.out))
                                    have HOd := Lib.hid (HO6.out.gone hgd (HO6.out.ne HAc.out (by decide)))
                                    have HRAd := Lib.hid (HRAc.out.gone hgd (HRAc.out.ne HAc.out (by decide)))
                                    have HRSd := Lib.hid (HRSc.out.gone hgd (HRSc.out.ne HAc.out (by decide)))
                                    clear ho6 hg6 hown std hrd hgd
                                    refine hK.out _ _ ?_ (fun hHeld => ?_)
                                    focus (exact trivial)
                                    clear hK K
                                    (try simp only [Act.put, List.setIfInBounds_toArray, List.set_cons_zero, List.set_cons_succ])
                                    first
                                      | (refine wpAnyH_take (i := 11) (oi := { dst := _, op := _, type := _, pos := _, after := _, guard := _ }) (v := _) rfl (by kernel_rfl) (by kernel_rfl) (by kernel_rfl) (fun _ _ _ h => h) (Or.inr ⟨by rfl, rfl⟩) hHeld ?_; (try simp only [Act.put, List.setIfInBounds_toArray, List.set_cons_zero, List.set_cons_succ]))
                                      | (refine wpAnyH_take (i := 11) (oi := { dst := _, op := _, type := _, pos := _, after := _, guard := _ }) (v := ?_) rfl (by kernel_rfl) (by kernel_rfl) (by kernel_rfl) (fun _ _ _ h => h) (Or.inl ⟨by rfl, ?_⟩) hHeld ?_; rotate_left; (focus (intro wS hSw; (try dsimp only at hSw); go_simp; (try with_reducible rfl); done)); (try simp only [Act.put, List.setIfInBounds_toArray, List.set_cons_zero, List.set_cons_succ]))
                                    refine wpAnyH_ready (rs := [12]) (by kernel_rfl) (by simp) ?_
                                    refine AllReadyH.cons (o := { dst := _, op := _, type := _, pos := _, after := _, guard := _ }) rfl (fun K hK => ?_) AllReadyH.nil
                                    rw [if_pos (by rfl)]
                                    refine wp_store_run _ 25 _ _ rfl _ _ rfl rfl STd.out ?_
                                    refine hK.out _ _ ?_ (fun hHeld => ?_)
                                    focus (exact trivial)
                                    clear hK K
                                    (try simp only [Act.put, List.setIfInBounds_toArray, List.set_cons_zero, List.set_cons_succ])
                                    refine wpAnyH_done (by kernel_rfl) ?_ _
                                    go_wp2_with fail
                                    go_roundw
                                    case rel =>
                                      refine ⟨lI ++ [⟨bs xs, bs xp, bs xn⟩], q6, k6, t3x, by rw [List.length_append]; simp; omega, by rw [List.length_append]; go_num, ?_, ?_, HDd.out, HTt3.out, HGd.out, ?_, ?_, HRAd.out, HRSd.out⟩
                                      · show OwE _ _ _ _ _ _ _
                                        rw [List.length_append]
                                        exact HOd.out
                                      · show RowI _ _ _ _ _
                                        rw [List.length_append]
                                        exact HAd.out
                                      · intro y hy
                                        rcases List.mem_append.1 hy with hy | hy
                                        · exact HSm.out y hy
                                        · obtain rfl : y = ⟨bs xs, bs xp, bs xn⟩ := (by simpa using hy)
                                          exact ⟨HSt1.out, HSt2.out, HSt3.out⟩
                                      · show _ = _
                                        rw [HMm.out]
                                        rw [show kI - (lI ++ [(⟨bs xs, bs xp, bs xn⟩ : PItem)]).length = m by have := HMK.out; rw [List.length_append]; simp; omega]
                                    case measure => simp [intOf]; omega
                            · have ck : decide ((lI.length : Int) < (kI : Int)) = false := by rw [decide_eq_false_iff_not]; omega
                              have ck2 : decide (lI.length < kI) = false := decide_eq_false hlt
                              have hmm := HM.out
                              rw [show kI - lI.length = 0 by omega] at hmm
                              have hx := HX15.out
                              rw [hmm, manyR, bind_some] at hx
                              simp only [] at hx
                              have HX16 := Lib.hid hx
                              clear hmm hx HM
                              obtain ⟨w16, hwx⟩ : ∃ x, x = wr := ⟨_, rfl⟩
                              subst hwx
                              have HA16 := HA
                              have HD16 := HD
                              have HT16 := HT
                              have HG16 := HG
                              have HRI_16 := HO
                              have HSMI := HSm
                              have HRA_16 := HRA
                              have HRS_16 := HRS
                              have hv : NodeV w16 (.agg #[.string (bs nm), .bool cl, .int .u8 (ac : Int), .int .i64 (mx : Int), .slice aA lA.length cA, .slice aS lS.length cS, .slice aI lI.length cI, .string (bs pa)]) (⟨bs nm, cl, (ac : Int), (mx : Int), lA, lS, lI, bs pa⟩ : PNode) := ⟨_, _, _, rfl, HRA_16.out.sl PAff.enc_len, HRS_16.out.sl PSub.enc_len, HRI_16.out.sl PItem.enc_len⟩
                              have hbd : Bd (⟨bs nm, cl, (ac : Int), (mx : Int), lA, lS, lI, bs pa⟩ : PNode) := ⟨HS1.out, HS7.out, HSMA.out, HSMS.out, HSMI.out, by show lA.length ≤ 1000; omega, by show lS.length ≤ 1000; omega, by show lI.length ≤ 1000; omega⟩
                              have hRi := right_any _ (⟨bs nm, cl, (ac : Int), (mx : Int), lA, lS, lI, bs pa⟩ : PNode) w16 hv hbd
                              have hx := HX16.out
                              unfold fin at hx
                              have HV := Lib.hid hv
                              have HBD := Lib.hid hbd
                              have h0 := HD16.out.at 0 _ rfl
                              have HNo := Lib.hid must_no
                              have HOk := Lib.hid must_ok
                              clear hv hbd
                              by_cases ht : t = []
                              · subst ht
                                cases hrt : rightN pr (⟨bs nm, cl, (ac : Int), (mx : Int), lA, lS, lI, bs pa⟩ : PNode) with
                                | true =>
                                  rw [hrt] at hx hRi
                                  have HN : Hid (decR pr t0 = some (⟨bs nm, cl, (ac : Int), (mx : Int), lA, lS, lI, bs pa⟩ : PNode)) := hx
                                  have HRi := Lib.hid hRi
                                  clear hx hRi hrt
                                  go_upto_region 15 with fail
                                  have c0 := HA16.out.at 0 _ rfl
                                  have c1 := HA16.out.at 1 _ rfl
                                  have c2 := HA16.out.at 2 _ rfl
                                  have c3 := HA16.out.at 3 _ rfl
                                  have c4 := HA16.out.at 4 _ rfl
                                  have c5 := HA16.out.at 5 _ rfl
                                  have c6 := HA16.out.at 6 _ rfl
                                  have c7 := HA16.out.at 7 _ rfl
                                  have he : ((bs []).toList == []) = true := by rw [beq_iff_eq, ByteArray.toList_eq]
                                  go_wp2_with fail
                                  (with_reducible refine HRi.out.mono ?_)
                                  rintro e z1 ⟨rfl, hb⟩
                                  have HAz := Lib.hid (HA16.out.below hb)
                                  have HVz := Lib.hid (HV.out.below hb)
                                  have HGz := Lib.hid (gTrans HG16.out (gBelow hb (some R)))
                                  clear hb c0 c1 c2 c3 c4 c5 c6 c7
                                  go_wp2_with fail
                                  (with_reducible refine (HOk.out _).mono ?_)
                                  rintro e z2 ⟨rfl, hw⟩
                                  obtain rfl := hw.symm
                                  have c0 := HAz.out.at 0 _ rfl
                                  have c1 := HAz.out.at 1 _ rfl
                                  have c2 := HAz.out.at 2 _ rfl
                                  have c3 := HAz.out.at 3 _ rfl
                                  have c4 := HAz.out.at 4 _ rfl
                                  have c5 := HAz.out.at 5 _ rfl
                                  have c6 := HAz.out.at 6 _ rfl
                                  have c7 := HAz.out.at 7 _ rfl
                                  obtain ⟨z3, st3, hr3, hg3, _⟩ := run_store_row (P := Tryz.prog) HAz.out 27 [.string (bs nm), .bool cl, .int .u8 (ac : Int), .int .i64 (mx : Int), .slice aA lA.length cA, .slice aS lS.length cS, .slice aI lI.length cI, .string (bs pa)] (sizeNode _) rfl rfl (node_one _ _ _ _ _ _ _ _ rfl rfl rfl)
                                  have HV3 := Lib.hid (HVz.out.goneN HAz.out hg3)
                                  have HG3 := Lib.hid (gOut1 HGz.out hg3 (Nat.le_refl _))
                                  have ST3 := Lib.hid st3
                                  have r0 := hr3.at 0 _ rfl
                                  have r1 := hr3.at 1 _ rfl
                                  have r2 := hr3.at 2 _ rfl
                                  have r3 := hr3.at 3 _ rfl
                                  have r4 := hr3.at 4 _ rfl
                                  have r5 := hr3.at 5 _ rfl
                                  have r6 := hr3.at 6 _ rfl
                                  have r7 := hr3.at 7 _ rfl
                                  clear st3 hr3 hg3
                                  go_wp2_with (refine wpList_store_run _ rfl 27 _ _ rfl _ _ rfl rfl ST3.out ?_)
                                  refine bodyPost_ret (by simp [results, Tryz.results15, go_sem, r0, r1, r2, r3, r4, r5, r6, r7]; try rfl) rfl ?_
                                  rw [HN.out]
                                  exact ⟨_, rfl, HV3.out, HBD.out, by show (0 : Int) ≤ (ac : Int); omega, HG3.out⟩
                                | false =>
                                  rw [hrt] at hx hRi
                                  have HN : Hid (decR pr t0 = none) := hx
                                  have HRi := Lib.hid hRi
                                  clear hx hRi hrt
                                  go_upto_region 15 with fail
                                  have c0 := HA16.out.at 0 _ rfl
                                  have c1 := HA16.out.at 1 _ rfl
                                  have c2 := HA16.out.at 2 _ rfl
                                  have c3 := HA16.out.at 3 _ rfl
                                  have c4 := HA16.out.at 4 _ rfl
                                  have c5 := HA16.out.at 5 _ rfl
                                  have c6 := HA16.out.at 6 _ rfl
                                  have c7 := HA16.out.at 7 _ rfl
                                  have he : ((bs []).toList == []) = true := by rw [beq_iff_eq, ByteArray.toList_eq]
                                  go_wp2_with fail
                                  (with_reducible refine HRi.out.mono ?_)
                                  rintro e z1 ⟨rfl, hb⟩
                                  have HGz := Lib.hid (gTrans HG16.out (gBelow hb (some R)))
                                  clear hb c0 c1 c2 c3 c4 c5 c6 c7
                                  go_wp2_with fail
                                  (with_reducible refine (HNo.out _).mono ?_)
                                  rintro e z2 ⟨rfl, hw⟩
                                  obtain rfl := hw.symm
                                  go_wp2_with fail
                                  exact ⟨rfl, by rw [HN.out]; exact ⟨rfl, HGz.out⟩⟩
                              · have he : ((bs t).toList == []) = false := by
                                  rw [beq_eq_false_iff_ne, ByteArray.toList_eq]
                                  exact ht
                                rw [if_neg (by rw [show t.isEmpty = false from List.isEmpty_eq_false_iff.2 ht]; simp)] at hx
                                have HN := Lib.hid hx
                                clear hx hRi ht
                                generalize bs t = tb at h0 he
                                go_upto_region 15 with fail
                                go_wp2_with fail
                                (with_reducible refine (HNo.out _).mono ?_)
                                rintro e z2 ⟨rfl, hw⟩
                                obtain rfl := hw.symm
                                go_wp2_with fail
                                exact ⟨rfl, by rw [HN.out]; exact ⟨rfl, HG16.out⟩⟩
end Go.Proofs.YtpjaopcgoaannaaGreatDoor
