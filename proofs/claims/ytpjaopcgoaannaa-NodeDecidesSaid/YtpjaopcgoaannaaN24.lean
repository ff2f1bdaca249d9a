/- begun: a node of a@d. Written by gen_n24.py. -/
import Derived.Test.YtpjaopcgoaannaaN23
namespace Go.Proofs.Ytpjaopcgoaannaa
open Go.RowKit Go.Lib
open Hb

def begunN (ac : Int) (leaf : Bool) : PNode := ⟨⟨#[110]⟩, !leaf, ac % 3, if leaf then 3 else 0, [⟨nA, 5⟩], [], [], ⟨#[]⟩⟩

set_option maxRecDepth 100000 in
set_option maxHeartbeats 8000000 in
theorem begun_any (ac : Int) (leaf : Bool) (w : World) (h0 : 0 ≤ ac) (h1 : ac ≤ 255) : Calls Try.prog 9 #[.int .u8 ac, .bool leaf] w fun e w' => ∃ v, e = .returned v ∧ NodeV w' v (begunN ac leaf) ∧ Below w.heap.size w w' := by
  cases leaf with
  | true =>
    obtain ⟨W1, hW1, hB1, hz, ha, hs1⟩ := two w 28 54 [.string ⟨#[]⟩, .bool false, .int .u8 0, .int .i64 0, .slice none 0 0, .slice none 0 0, .slice none 0 0, .string ⟨#[]⟩] [.string nA, .int .u8 5]
    obtain ⟨W2, hW2, hB2, hn, hs2⟩ := one W1 28 [.string ⟨#[110]⟩, .bool false, .int .u8 (ac % 3), .int .i64 3, .slice (some ⟨w.heap.size + 1, 0, none⟩) 1 1, .slice none 0 0, .slice none 0 0, .string ⟨#[]⟩]
    have hB := hB1.trans (hB2.mono hB1.size)
    rw [show W1.heap.size = w.heap.size + 1 + 1 from hs1] at hn
    obtain ⟨W3, st, hr, hg, _⟩ := run_store_row (P := Try.prog) (hz.below hB2) 28 [.string ⟨#[110]⟩, .bool false, .int .u8 (ac % 3), .int .i64 3, .slice (some ⟨w.heap.size + 1, 0, none⟩) 1 1, .slice none 0 0, .slice none 0 0, .string ⟨#[]⟩] (sizeNode W2) rfl rfl (node_one _ _ _ _ _ _ _ _ rfl rfl rfl)
    have ha3 : RowI W3 (w.heap.size + 1) 54 2 [.string nA, .int .u8 5] := (ha.below hB2).gone hg (by omega)
    have hB3 := below_gone hB hg hB.size (Nat.le_refl _)
    have hv : NodeV W3 (.agg #[.string ⟨#[110]⟩, .bool false, .int .u8 (ac % 3), .int .i64 3, .slice (some ⟨w.heap.size + 1, 0, none⟩) 1 1, .slice none 0 0, .slice none 0 0, .string ⟨#[]⟩]) (begunN ac true) := by
      refine ⟨_, _, _, rfl, ⟨_, 1, rfl, Nat.le_refl _, .inr ⟨w.heap.size + 1, 0, rfl, ha3.lt, ?_⟩⟩, SlE.nil _, SlE.nil _⟩
      intro i hi j hj
      obtain rfl : i = 0 := by have : i < 1 := hi; omega
      rw [show (0 + 0 * 2 + j : Nat) = j by omega]
      show _ = (PAff.enc ⟨nA, 5⟩)[j]?
      cases hz : (PAff.enc ⟨nA, 5⟩)[j]? with
      | none => rw [List.getElem?_eq_none_iff, PAff.enc_len] at hz; omega
      | some u => exact ha3.at j u hz
    have HV := Lib.hid hv
    have HB3 := Lib.hid hB3
    have ST := Lib.hid st
    have HW : Hid (((w.alloc (.cells #[.string ⟨#[]⟩, .bool false, .int .u8 0, .int .i64 0, .slice none 0 0, .slice none 0 0, .slice none 0 0, .string ⟨#[]⟩] 28)).alloc (.cells #[.string nA, .int .u8 5] 54)).alloc (.cells #[.string ⟨#[110]⟩, .bool false, .int .u8 (ac % 3), .int .i64 3, .slice (some ⟨w.heap.size + 1, 0, none⟩) 1 1, .slice none 0 0, .slice none 0 0, .string ⟨#[]⟩] 28) = W2) := by rw [← hW2, ← hW1]; rfl
    have c0 := hn.at 0 _ rfl
    have c1 := hn.at 1 _ rfl
    have c2 := hn.at 2 _ rfl
    have c3 := hn.at 3 _ rfl
    have c4 := hn.at 4 _ rfl
    have c5 := hn.at 5 _ rfl
    have c6 := hn.at 6 _ rfl
    have c7 := hn.at 7 _ rfl
    have r0 := hr.at 0 _ rfl
    have r1 := hr.at 1 _ rfl
    have r2 := hr.at 2 _ rfl
    have r3 := hr.at 3 _ rfl
    have r4 := hr.at 4 _ rfl
    have r5 := hr.at 5 _ rfl
    have r6 := hr.at 6 _ rfl
    have r7 := hr.at 7 _ rfl
    clear hW1 hB1 hz ha hs1 hW2 hB2 hn hs2 hB st hr hg ha3 hB3 hv
    unfold nA at HW
    go_enter Try.func9, Try.ntmps9
    go_upto_region 4 with fail
    rw [HW.out]
    go_wp2_with (refine wpList_store_run _ rfl 28 _ _ rfl _ _ rfl rfl ST.out ?_)
    refine bodyPost_ret (by simp [results, Try.results9, go_sem, r0, r1, r2, r3, r4, r5, r6, r7]; try rfl) rfl ?_
    exact ⟨_, rfl, HV.out, HB3.out⟩
  | false =>
    obtain ⟨W1, hW1, hB1, hz, ha, hs1⟩ := two w 28 54 [.string ⟨#[]⟩, .bool false, .int .u8 0, .int .i64 0, .slice none 0 0, .slice none 0 0, .slice none 0 0, .string ⟨#[]⟩] [.string nA, .int .u8 5]
    obtain ⟨W2, hW2, hB2, hn, hs2⟩ := one W1 28 [.string ⟨#[110]⟩, .bool true, .int .u8 (ac % 3), .int .i64 0, .slice (some ⟨w.heap.size + 1, 0, none⟩) 1 1, .slice none 0 0, .slice none 0 0, .string ⟨#[]⟩]
    have hB := hB1.trans (hB2.mono hB1.size)
    rw [show W1.heap.size = w.heap.size + 1 + 1 from hs1] at hn
    obtain ⟨W3, st, hr, hg, _⟩ := run_store_row (P := Try.prog) (hz.below hB2) 28 [.string ⟨#[110]⟩, .bool true, .int .u8 (ac % 3), .int .i64 0, .slice (some ⟨w.heap.size + 1, 0, none⟩) 1 1, .slice none 0 0, .slice none 0 0, .string ⟨#[]⟩] (sizeNode W2) rfl rfl (node_one _ _ _ _ _ _ _ _ rfl rfl rfl)
    have ha3 : RowI W3 (w.heap.size + 1) 54 2 [.string nA, .int .u8 5] := (ha.below hB2).gone hg (by omega)
    have hB3 := below_gone hB hg hB.size (Nat.le_refl _)
    have hv : NodeV W3 (.agg #[.string ⟨#[110]⟩, .bool true, .int .u8 (ac % 3), .int .i64 0, .slice (some ⟨w.heap.size + 1, 0, none⟩) 1 1, .slice none 0 0, .slice none 0 0, .string ⟨#[]⟩]) (begunN ac false) := by
      refine ⟨_, _, _, rfl, ⟨_, 1, rfl, Nat.le_refl _, .inr ⟨w.heap.size + 1, 0, rfl, ha3.lt, ?_⟩⟩, SlE.nil _, SlE.nil _⟩
      intro i hi j hj
      obtain rfl : i = 0 := by have : i < 1 := hi; omega
      rw [show (0 + 0 * 2 + j : Nat) = j by omega]
      show _ = (PAff.enc ⟨nA, 5⟩)[j]?
      cases hz : (PAff.enc ⟨nA, 5⟩)[j]? with
      | none => rw [List.getElem?_eq_none_iff, PAff.enc_len] at hz; omega
      | some u => exact ha3.at j u hz
    have HV := Lib.hid hv
    have HB3 := Lib.hid hB3
    have ST := Lib.hid st
    have HW : Hid (((w.alloc (.cells #[.string ⟨#[]⟩, .bool false, .int .u8 0, .int .i64 0, .slice none 0 0, .slice none 0 0, .slice none 0 0, .string ⟨#[]⟩] 28)).alloc (.cells #[.string nA, .int .u8 5] 54)).alloc (.cells #[.string ⟨#[110]⟩, .bool true, .int .u8 (ac % 3), .int .i64 0, .slice (some ⟨w.heap.size + 1, 0, none⟩) 1 1, .slice none 0 0, .slice none 0 0, .string ⟨#[]⟩] 28) = W2) := by rw [← hW2, ← hW1]; rfl
    have c0 := hn.at 0 _ rfl
    have c1 := hn.at 1 _ rfl
    have c2 := hn.at 2 _ rfl
    have c3 := hn.at 3 _ rfl
    have c4 := hn.at 4 _ rfl
    have c5 := hn.at 5 _ rfl
    have c6 := hn.at 6 _ rfl
    have c7 := hn.at 7 _ rfl
    have r0 := hr.at 0 _ rfl
    have r1 := hr.at 1 _ rfl
    have r2 := hr.at 2 _ rfl
    have r3 := hr.at 3 _ rfl
    have r4 := hr.at 4 _ rfl
    have r5 := hr.at 5 _ rfl
    have r6 := hr.at 6 _ rfl
    have r7 := hr.at 7 _ rfl
    clear hW1 hB1 hz ha hs1 hW2 hB2 hn hs2 hB st hr hg ha3 hB3 hv
    unfold nA at HW
    go_enter Try.func9, Try.ntmps9
    go_upto_region 4 with fail
    rw [HW.out]
    go_wp2_with (refine wpList_store_run _ rfl 28 _ _ rfl _ _ rfl rfl ST.out ?_)
    refine bodyPost_ret (by simp [results, Try.results9, go_sem, r0, r1, r2, r3, r4, r5, r6, r7]; try rfl) rfl ?_
    exact ⟨_, rfl, HV.out, HB3.out⟩
end Go.Proofs.Ytpjaopcgoaannaa
