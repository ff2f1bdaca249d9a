/- slices.Insert inside of a row; node.set. Written by gen_n7.py. -/
import Derived.Test.YtpjaopcgoaannaaGreatDoorN7
namespace Go.Proofs.YtpjaopcgoaannaaGreatDoor
open Go.RowKit
open Hb

theorem sizeAff : (Tryz.prog.info? 49).map (·.size) = some 2 := by
  obtain ⟨i0, hi, h0, h1, h2⟩ := info_parts infoAff
  rw [hi]
  simp [h1]
theorem sizeOfAff : ∀ w, (Go.sizeOf 49).run Tryz.prog w = .ok 2 w := by
  obtain ⟨i0, hi, h0, h1, h2⟩ := info_parts infoAff
  intro w
  simp [Go.sizeOf, typeInfo, hi, h1]
theorem zcellAff (n : Nat) : (Builtin.zeroCells (Value.agg #[.string ⟨#[]⟩, .int .u8 0]).cells n).size = n * 2 := by
  rw [size_zeroCells]
  rfl
theorem sizeSub : (Tryz.prog.info? 51).map (·.size) = some 3 := by
  obtain ⟨i0, hi, h0, h1, h2⟩ := info_parts infoSub
  rw [hi]
  simp [h1]
theorem sizeOfSub : ∀ w, (Go.sizeOf 51).run Tryz.prog w = .ok 3 w := by
  obtain ⟨i0, hi, h0, h1, h2⟩ := info_parts infoSub
  intro w
  simp [Go.sizeOf, typeInfo, hi, h1]
set_option maxRecDepth 100000 in
set_option maxHeartbeats 4000000 in
theorem insSub_shift (base : Nat) (g c : Nat) (l : List PSub) (i : Nat) (x : PSub) (vb : Nat) (w : World) (hrow : RowI w g 51 (c * 3) (l.flatMap PSub.enc)) (hbg : base ≤ g) (_hb : base ≤ w.heap.size) (hi : i < l.length) (hn : l.length ≤ 1000000) (hc : l.length + 1 ≤ c) (hcm : c ≤ maxLen) (hx : RowI w vb 51 3 x.enc) (hne : vb ≠ g) :
    Calls Tryz.prog 61 #[.slice (some ⟨g, 0, none⟩) l.length c, .int .i64 i, .slice (some ⟨vb, 0, none⟩) 1 1] w fun e w' => ∃ v', e = .returned v' ∧ OwE PSub.enc 3 w' base 51 v' (l.take i ++ x :: l.drop i) ∧ w.grownBy w' (some g) := by
  have hlen : ∀ l : List PSub, (l.flatMap PSub.enc).length = l.length * 3 := flat_len PSub.enc 3 PSub.enc_len
  have hc63 : c ≤ 9223372036854775807 := by unfold maxLen at hcm; omega
  have hov : ∀ lb cb, (callFunc 73 #[.slice (some ⟨vb, 0, none⟩) 1 1, .slice (some ⟨g, (i + 1) * 3, none⟩) lb cb]).run Tryz.prog w = .ok (.value (.bool false)) w := fun lb cb => by
    rw [run_callFunc_extern Tryz.func73 (by kernel_rfl) (by kernel_rfl) (by kernel_rfl) (e := Extern.SlicesOverlaps.overlaps #[24, 24] #[4]) (by kernel_rfl),
      Lib.run_overlaps_apart w 24 4 51 Tryz.underlying24 3 sizeOfSub ⟨vb, 0, none⟩ ⟨g, (i + 1) * 3, none⟩ 1 1 lb cb hne 51 51 3 (c * 3) hx.shape hrow.shape (by omega) (hx.frozen 0) (hx.frozen _)]
    rfl
  have hdr : RowI w.drew g 51 (c * 3) (l.flatMap PSub.enc) := hrow
  have hflat : (l.flatMap PSub.enc).drop (i * 3) = (l.drop i).flatMap PSub.enc := flat_drop PSub.enc 3 PSub.enc_len l i (by omega)
  obtain ⟨w1, hc1, hr1, hg1, hs1⟩ := run_copy_k (P := Tryz.prog) hdr 3 24 24 51 ((i + 1) * 3) (l.length - i) (c - (i + 1)) ⟨g, i * 3, none⟩ (l.length + 1 - i) (c - i) ((l.drop i).flatMap PSub.enc) Tryz.underlying24 sizeSub
    (by rw [hlen, List.length_drop]; congr 1; simp only [Nat.min_def]; split <;> omega)
    (fun j v hj => by
      have ha : (⟨g, i * 3, none⟩ : Addr).add j = ⟨g, i * 3 + j, none⟩ := by unfold Addr.add; split <;> simp_all
      rw [ha]
      refine hdr.at _ v ?_
      rw [← hflat, List.getElem?_drop] at hj
      exact hj)
    (by rw [hlen]; omega) (by rw [hlen, List.length_drop]; omega) (PSub.one _)
  have e1 : (l.flatMap PSub.enc).take ((i + 1) * 3) ++ (l.drop i).flatMap PSub.enc ++ (l.flatMap PSub.enc).drop ((i + 1) * 3 + ((l.drop i).flatMap PSub.enc).length) = (l.take (i + 1) ++ l.drop i).flatMap PSub.enc := by
    have e0 : (l.flatMap PSub.enc).drop ((i + 1) * 3 + ((l.drop i).flatMap PSub.enc).length) = [] := List.drop_eq_nil_of_le (by rw [hlen, hlen, List.length_drop]; omega)
    rw [flat_take PSub.enc 3 PSub.enc_len l (i + 1) (by omega), e0, List.append_nil, List.flatMap_append]
  rw [e1] at hr1
  have hv1 : ∀ j u, x.enc[j]? = some u → w1.cell? ⟨vb, j, none⟩ = some u := fun j u hj => by
    rw [← hx.at j u hj]
    exact World.cell?_of_block (w := w) (hg1.block vb hx.lt (by simpa using hne))
  obtain ⟨w2, hc2, hr2, hg2, hs2⟩ := run_copy_k (P := Tryz.prog) hr1 3 24 24 51 (i * 3) (l.length + 1 - i) (c - i) ⟨vb, 0, none⟩ 1 1 x.enc Tryz.underlying24 sizeSub
    (by rw [PSub.enc_len]; simp only [Nat.min_def]; split <;> omega)
    (fun j v hj => by
      have ha : (⟨vb, 0, none⟩ : Addr).add j = ⟨vb, j, none⟩ := by unfold Addr.add; split <;> simp_all
      rw [ha]
      exact hv1 j v hj)
    (by rw [hlen]; simp only [List.length_append, List.length_take, List.length_drop]; omega) (by rw [PSub.enc_len]; omega) (PSub.one1 x)
  have e2 : ((l.take (i + 1) ++ l.drop i).flatMap PSub.enc).take (i * 3) ++ x.enc ++ ((l.take (i + 1) ++ l.drop i).flatMap PSub.enc).drop (i * 3 + x.enc.length) = (l.take i ++ x :: l.drop i).flatMap PSub.enc := by
    have hl1 : (l.take (i + 1) ++ l.drop i).length = l.length + 1 := by simp only [List.length_append, List.length_take, List.length_drop]; omega
    rw [flat_take PSub.enc 3 PSub.enc_len _ i (by omega), PSub.enc_len, show i * 3 + 3 = (i + 1) * 3 by omega, flat_drop PSub.enc 3 PSub.enc_len _ (i + 1) (by omega)]
    rw [List.take_append_of_le_length (by rw [List.length_take]; omega), List.take_take, Nat.min_eq_left (by omega)]
    have e3 : (l.take (i + 1) ++ l.drop i).drop (i + 1) = l.drop i := List.drop_left' (by rw [List.length_take]; omega)
    rw [e3, List.flatMap_append, List.flatMap_cons, List.append_assoc]
  rw [e2] at hr2
  have hlen2 : (l.take i ++ x :: l.drop i).length = l.length + 1 := by simp only [List.length_append, List.length_take, List.length_cons, List.length_drop]; omega
  have hfin : OwE PSub.enc 3 w2 base 51 (.slice (some ⟨g, 0, none⟩) (l.length + 1) c) (l.take i ++ x :: l.drop i) := by
    unfold OwE
    rw [hlen2]
    exact hr2.own hbg (by rw [hlen, hlen2]) hc hcm
  have hgr : w.grownBy w2 (some g) := gTrans (w1 := w.drew) ⟨rfl, rfl, rfl, Nat.le_refl _, fun _ _ _ => rfl⟩ (gTrans hg1 hg2)
  have HF := Lib.hid (And.intro hfin hgr)
  clear hfin hgr hr1 hr2 hg1 hg2 hs1 hs2 hv1 e1 e2 hflat hdr hrow hx hlen hlen2
  have hz2 : ¬ ((i : Int) = (l.length : Int)) := by omega
  have hw1 : IntKind.i64.wrap ((i : Int) + 1) = (i : Int) + 1 := by rw [IntKind.wrap_i64]; omega
  have hb3 : (i : Int) ≤ (l.length : Int) + 1 := by omega
  have htn : ((i : Int) + 1).toNat = i + 1 := by omega
  have hb2 : ¬ (c = i + 1) := by omega
  have hb4 : ¬ (c = i) := by omega
  have hb5 : i ≤ l.length := by omega
  have hb6 : (0 : Int) ≤ (i : Int) + 1 := by omega
  have mixed : Tryz.prog.follows .mixedOrders = true := by kernel_rfl
  go_enter Tryz.func61, Tryz.ntmps61
  go_wp2_with (simp only [hov])
  go_region_law_o (refine step_copy_runI rfl _ _ 24 24 rfl _ _ (by simp [Act.eval, Act.put]) (by simp [Act.eval, Act.put]) (hc1 _) ?_)
  go_wp2_with (at_builtin; refine wpList_copy_runI _ rfl _ _ 24 24 rfl _ _ rfl rfl (hc2 _) ?_)
  go_returns
  exact ⟨_, rfl, HF.out.1, HF.out.2⟩

theorem zcellSub (n : Nat) : (Builtin.zeroCells (Value.agg #[.string ⟨#[]⟩, .bool false, .int .i64 0]).cells n).size = n * 3 := by
  rw [size_zeroCells]
  rfl
set_option maxRecDepth 100000 in
set_option maxHeartbeats 4000000 in
theorem insSub_grow (base : Nat) (g c : Nat) (l : List PSub) (i : Nat) (x : PSub) (vb : Nat) (w : World) (hrow : RowI w g 51 (c * 3) (l.flatMap PSub.enc)) (hb : base ≤ w.heap.size) (hi : i < l.length) (hn : l.length ≤ 1000000) (hc : c < l.length + 1) (hcl : l.length ≤ c) (hx : RowI w vb 51 3 x.enc) :
    Calls Tryz.prog 61 #[.slice (some ⟨g, 0, none⟩) l.length c, .int .i64 i, .slice (some ⟨vb, 0, none⟩) 1 1] w fun e w' => ∃ v', e = .returned v' ∧ OwE PSub.enc 3 w' base 51 v' (l.take i ++ x :: l.drop i) ∧ Below w.heap.size w w' := by
  have hlen : ∀ l : List PSub, (l.flatMap PSub.enc).length = l.length * 3 := flat_len PSub.enc 3 PSub.enc_len
  have hdr : RowI w.drew g 51 (c * 3) (l.flatMap PSub.enc) := hrow
  have hflat : (l.flatMap PSub.enc).drop (i * 3) = (l.drop i).flatMap PSub.enc := flat_drop PSub.enc 3 PSub.enc_len l i (by omega)
  have htake : (l.flatMap PSub.enc).take (i * 3) = (l.take i).flatMap PSub.enc := flat_take PSub.enc 3 PSub.enc_len l i (by omega)
  obtain ⟨i0, hi0, hz0, hz1, hz2⟩ := info_parts infoSub
  obtain ⟨m, hm⟩ : ∃ m, m = l.length + 1 - i := ⟨_, rfl⟩
  have hmi : i + m = l.length + 1 := by omega
  have hadd : ∀ j, (⟨g, 0, none⟩ : Addr).add j = ⟨g, j, none⟩ := by intro j; unfold Addr.add; split <;> simp_all
  have hold : (Builtin.firstCells i0.size i (.slice (some ⟨g, 0, none⟩) i c)).run Tryz.prog w.drew = .ok ((l.take i).flatMap PSub.enc).toArray w.drew := by
    rw [hz1]
    exact run_firstCells_some w.drew 3 i ⟨g, 0, none⟩ i c ((l.take i).flatMap PSub.enc) (by rw [hlen, List.length_take]; congr 1; omega) (fun j v hj => by
      rw [hadd]
      refine hdr.at j v ?_
      rw [← htake, List.getElem?_take] at hj
      split at hj
      · exact hj
      · cases hj)
  obtain ⟨G, hG⟩ : ∃ G, G = grownCap w (l.length + 1) c 51 := ⟨_, rfl⟩
  obtain ⟨Z0, hZ0⟩ : ∃ Z0, Z0 = (Builtin.zeroCells (Value.agg #[.string ⟨#[]⟩, .bool false, .int .i64 0]).cells m).toList := ⟨_, rfl⟩
  obtain ⟨Z1, hZ1⟩ : ∃ Z1, Z1 = (Builtin.zeroCells (Value.agg #[.string ⟨#[]⟩, .bool false, .int .i64 0]).cells (G - (l.length + 1))).toList := ⟨_, rfl⟩
  have hZ0l : Z0.length = m * 3 := by rw [hZ0, Array.length_toList, zcellSub]
  have hZ1l : Z1.length = (G - (l.length + 1)) * 3 := by rw [hZ1, Array.length_toList, zcellSub]
  have hGn : l.length + 1 ≤ G := by rw [hG]; exact grownCap_ge w _ _ _
  have hGm : G ≤ maxLen := by rw [hG]; exact grownCap_le_maxLen w _ _ _ (by unfold maxLen; omega)
  obtain ⟨w0, hw0⟩ : ∃ w0, w0 = w.drew.alloc (.cells (((l.take i).flatMap PSub.enc ++ Z0) ++ Z1).toArray 51) := ⟨_, rfl⟩
  have hrz : ∀ ty, (Builtin.append_ #[24, 3] ty #[.slice (some ⟨g, 0, none⟩) i c, .int .i64 ((l.length : Int) + 1 - (i : Int))]).run Tryz.prog w = .ok (.slice (some ⟨w.heap.size, 0, none⟩) (l.length + 1) G) w0 := fun ty => by
    have h := Lib.run_append_grow_zeros w 24 3 ty 51 i0 _ .i64 .i64 Tryz.underlying24 Tryz.underlying3 hi0 hz0 (some ⟨g, 0, none⟩) i c ((l.take i).flatMap PSub.enc) hold m (by omega) (by rw [hz1]; omega) (by omega) (by omega) (by rw [hz2]; omega) (by rw [hz2, hmi]; exact growslice_fits hc (by omega))
    rw [hmi, ← hG] at h
    rw [show (l.length : Int) + 1 - (i : Int) = (m : Int) by omega, h, hw0, hZ0, hZ1]
    congr 3
    apply Array.ext'
    simp
  have hr0 : RowI w0 w.heap.size 51 (G * 3) ((l.take i).flatMap PSub.enc ++ Z0) := by
    have h := RowI.new w.drew 51 ((l.take i).flatMap PSub.enc ++ Z0) Z1
    rw [← hw0] at h
    have hs : (((l.take i).flatMap PSub.enc ++ Z0) ++ Z1).length = G * 3 := by
      rw [List.length_append, List.length_append, hlen, List.length_take, hZ0l, hZ1l, ← Nat.add_mul, ← Nat.add_mul]
      congr 1
      omega
    rw [hs] at h
    exact h
  have hb0 : Below w.heap.size w w0 := by rw [hw0]; exact ((Below.refl _ w).drew).alloc (Nat.le_refl _) _
  have hx0 := hx.below hb0
  have hd0 := hrow.below hb0
  have hs0 : w0.heap.size = w.heap.size + 1 := by rw [hw0]; simp
  have hadd2 : ∀ j, (⟨vb, 0, none⟩ : Addr).add j = ⟨vb, j, none⟩ := by intro j; unfold Addr.add; split <;> simp_all
  have htl : ((l.take i).flatMap PSub.enc).length = i * 3 := by rw [hlen, List.length_take]; congr 1; omega
  obtain ⟨w1, hc1, hr1, hg1, hs1⟩ := run_copy_k (P := Tryz.prog) hr0 3 24 24 51 (i * 3) (l.length + 1 - i) (G - i) ⟨vb, 0, none⟩ 1 1 x.enc Tryz.underlying24 sizeSub
    (by rw [PSub.enc_len]; simp only [Nat.min_def]; split <;> omega)
    (fun j v hj => by rw [hadd2]; exact hx0.at j v hj)
    (by rw [List.length_append, htl]; omega) (by rw [PSub.enc_len]; omega) (PSub.one1 x)
  have e1 : ((l.take i).flatMap PSub.enc ++ Z0).take (i * 3) ++ x.enc ++ ((l.take i).flatMap PSub.enc ++ Z0).drop (i * 3 + x.enc.length) = ((l.take i).flatMap PSub.enc ++ x.enc) ++ Z0.drop 3 := by
    rw [List.take_left' htl, ← htl, List.drop_length_add_append, PSub.enc_len]
  rw [e1] at hr1
  have hne : w.heap.size ≠ g := fun e => by have := hrow.lt; omega
  have hd1 : RowI w1 g 51 (c * 3) (l.flatMap PSub.enc) := hd0.kept (hg1.block g hd0.lt (by simpa using fun e : g = w.heap.size => hne e.symm))
  have hd1' : RowI w1.drew g 51 (c * 3) (l.flatMap PSub.enc) := hd1
  have hr1' : RowI w1.drew w.heap.size 51 (G * 3) (((l.take i).flatMap PSub.enc ++ x.enc) ++ Z0.drop 3) := hr1
  have htl2 : ((l.take i).flatMap PSub.enc ++ x.enc).length = (i + 1) * 3 := by rw [List.length_append, htl, PSub.enc_len]; omega
  obtain ⟨w2, hc2, hr2, hg2, hs2⟩ := run_copy_k (P := Tryz.prog) hr1' 3 24 24 51 ((i + 1) * 3) (l.length - i) (G - (i + 1)) ⟨g, i * 3, none⟩ (l.length - i) (c - i) ((l.drop i).flatMap PSub.enc) Tryz.underlying24 sizeSub
    (by rw [hlen, List.length_drop]; simp only [Nat.min_def]; split <;> omega)
    (fun j v hj => by
      have ha : (⟨g, i * 3, none⟩ : Addr).add j = ⟨g, i * 3 + j, none⟩ := by unfold Addr.add; split <;> simp_all
      rw [ha]
      refine hd1'.at _ v ?_
      rw [← hflat, List.getElem?_drop] at hj
      exact hj)
    (by rw [List.length_append, htl2]; omega) (by rw [hlen, List.length_drop]; omega) (PSub.one _)
  have e2 : (((l.take i).flatMap PSub.enc ++ x.enc) ++ Z0.drop 3).take ((i + 1) * 3) ++ (l.drop i).flatMap PSub.enc ++ (((l.take i).flatMap PSub.enc ++ x.enc) ++ Z0.drop 3).drop ((i + 1) * 3 + ((l.drop i).flatMap PSub.enc).length) = (l.take i ++ x :: l.drop i).flatMap PSub.enc := by
    have e0 : (((l.take i).flatMap PSub.enc ++ x.enc) ++ Z0.drop 3).drop ((i + 1) * 3 + ((l.drop i).flatMap PSub.enc).length) = [] := List.drop_eq_nil_of_le (by rw [List.length_append, htl2, List.length_drop, hZ0l, hlen, List.length_drop]; omega)
    rw [e0, List.take_left' htl2, List.append_nil, List.flatMap_append, List.flatMap_cons, List.append_assoc]
  rw [e2] at hr2
  have hlen2 : (l.take i ++ x :: l.drop i).length = l.length + 1 := by simp only [List.length_append, List.length_take, List.length_cons, List.length_drop]; omega
  have hfin : OwE PSub.enc 3 w2 base 51 (.slice (some ⟨w.heap.size, 0, none⟩) (l.length + 1) G) (l.take i ++ x :: l.drop i) := by
    unfold OwE
    rw [hlen2]
    exact hr2.own hb (by rw [hlen, hlen2]) hGn hGm
  have hgr : Below w.heap.size w w2 := hb0.grown (w := w0) (gTrans hg1 ⟨hg2.os, hg2.tape, hg2.output, hg2.size, hg2.block⟩) (by omega) (fun k e => by cases e; exact Nat.le_refl _)
  have HF := Lib.hid (And.intro hfin hgr)
  clear hfin hgr hr1 hr1' hr2 hg1 hg2 hs1 hs2 e1 e2 hflat htake hdr hrow hx hlen hlen2 hd0 hd1 hd1' hx0 hb0 hr0 hw0 hZ0 hZ1 hZ0l hZ1l htl htl2 hold hs0 hG hm hmi
  have hz2 : ¬ ((i : Int) = (l.length : Int)) := by omega
  have hz3 : (c : Int) < (l.length : Int) + 1 := by omega
  have hw1 : IntKind.i64.wrap ((i : Int) + 1) = (i : Int) + 1 := by rw [IntKind.wrap_i64]; omega
  have hb3 : (i : Int) ≤ (l.length : Int) + 1 := by omega
  have htn : ((i : Int) + 1).toNat = i + 1 := by omega
  have hb2 : ¬ (G = i + 1) := by omega
  have hb4 : ¬ (c = i) := by omega
  have hb7 : ¬ (G = i) := by omega
  have hb5 : i ≤ l.length := by omega
  have hb6 : (0 : Int) ≤ (i : Int) + 1 := by omega
  have hG63 : G ≤ 9223372036854775807 := by unfold maxLen at hGm; omega
  have mixed : Tryz.prog.follows .mixedOrders = true := by kernel_rfl
  go_enter Tryz.func61, Tryz.ntmps61
  go_wp2_with (first
    | (at_builtin; refine Lib.wpList_append_run _ rfl _ _ _ _ rfl _ _ rfl rfl _ _ (hrz _) ?_)
    | (at_builtin; refine wpList_copy_runI _ rfl _ _ 24 24 rfl _ _ rfl rfl (hc1 _) ?_))
  go_region_law_o (refine step_copy_runI rfl _ _ 24 24 rfl _ _ (by simp [Act.eval, Act.put]) (by simp [Act.eval, Act.put]) (hc2 _) ?_)
  go_wp2_with fail
  go_returns
  exact ⟨_, rfl, HF.out.1, HF.out.2⟩
end Go.Proofs.YtpjaopcgoaannaaGreatDoor
