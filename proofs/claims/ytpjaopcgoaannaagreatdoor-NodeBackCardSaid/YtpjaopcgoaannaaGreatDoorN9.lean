/- node.set: a row that rises, with one more. Written by gen_n7.py. -/
import Derived.Test.YtpjaopcgoaannaaGreatDoorN8
namespace Go.Proofs.YtpjaopcgoaannaaGreatDoor
open Go.RowKit
open Hb

theorem cmpSub_any (x : PSub) (t : ByteArray) (b : Nat) (w : World) (hb : w.cell? ⟨b, 0, none⟩ = some (.func (.func 27) #[] #[])) :
    Calls Tryz.prog 59 #[.agg x.enc.toArray, .string t, .pointer (some ⟨b, 0, none⟩)] w fun e w' => e = .returned (.int .i64 (cmpZ x.jid t)) ∧ Below w.heap.size w w' := by
  have hO := fun W => subOf_any x W
  have hC : ∀ W, Calls Tryz.prog 60 #[.string x.jid, .string t] W fun e w' => e = .returned (.int .i64 (cmpZ x.jid t)) ∧ w' = W := fun W => Tryz.strings_Compare x.jid t W
  unfold PSub.enc at *
  generalize cmpZ x.jid t = z at hC ⊢
  generalize x.jid = a at *
  generalize x.pending = a1 at *
  generalize x.depth = a2 at *
  have eg : ∀ args w, (callFunc 27 args).run Tryz.prog w = .ok (.enter 27 args) w := enters_of Tryz.func27 (by kernel_rfl) rfl
  have HO : Hid _ := hO
  have HC : Hid _ := hC
  clear hO hC
  have hb1 := Lib.cell?_alloc_some (.cells #[.string a, .bool a1, .int .i64 a2] 51) hb
  go_enter Tryz.func59, Tryz.ntmps59
  go_wp2_with fail
  go_at_fn 27
  with_reducible refine (HO.out _).mono ?_
  rintro e w1 ⟨rfl, hB1⟩
  go_wp2_with fail
  with_reducible refine (HC.out _).mono ?_
  rintro e w2 ⟨rfl, rfl⟩
  go_wp2_with fail
  go_returns
  exact ⟨rfl, ((Below.refl w.heap.size w).alloc (Nat.le_refl _) _).trans (hB1.mono (by simp))⟩

set_option maxRecDepth 100000 in
set_option maxHeartbeats 4000000 in
theorem setSub_any (base : Nat) (v : Value) (l : List PSub) (x : PSub) (w : World) (hown : OwE PSub.enc 3 w base 51 v l) (hb : base ≤ w.heap.size) (hr : Ris PSub.jid l) (hn : l.length ≤ 1000) :
    Calls Tryz.prog 40 #[v, .agg #[.string x.jid, .bool x.pending, .int .i64 x.depth], .func (.func 27) #[] #[]] w fun e w' => ∃ v', e = .returned v' ∧ OwE PSub.enc 3 w' base 51 v' (setL PSub.jid x l) ∧ w.grownBy w' v.ownBlock := by
  obtain ⟨W0, hW0⟩ : ∃ W0, (w.alloc (.cells #[.string x.jid, .bool x.pending, .int .i64 x.depth] 51)).alloc (.cells #[.func (.func 27) #[] #[]] 74) = W0 := ⟨_, rfl⟩
  have hbw : Below w.heap.size w W0 := by rw [← hW0]; exact ((Below.refl w.heap.size w).alloc (Nat.le_refl _) _).alloc (by simp) _
  have hs0 : W0.heap.size = w.heap.size + 2 := by rw [← hW0]; simp
  have hx0 : RowI W0 w.heap.size 51 3 x.enc := by
    have := RowI.new w 51 x.enc []
    rw [List.append_nil, PSub.enc_len] at this
    exact this.kept (by rw [← hW0]; exact Below.heap_alloc _ _ _ (by simp))
  have hxo : RowI W0 (w.heap.size + 1) 74 1 [.func (.func 27) #[] #[]] := by
    have := RowI.new (w.alloc (.cells #[.string x.jid, .bool x.pending, .int .i64 x.depth] 51)) 74 [.func (.func 27) #[] #[]] []
    have e : (w.alloc (.cells #[.string x.jid, .bool x.pending, .int .i64 x.depth] 51)).heap.size = w.heap.size + 1 := by simp
    rw [e] at this
    exact this.kept (by rw [← hW0]; rfl)
  have hO : Calls Tryz.prog 27 #[.agg #[.string x.jid, .bool x.pending, .int .i64 x.depth]] W0 fun e w' => e = .returned (.string x.jid) ∧ Below W0.heap.size W0 w' := subOf_any x W0
  have hown0 : OwE PSub.enc 3 W0 base 51 v l := World.ownsRow.kept hown (gBelow hbw none) (by cases v.ownBlock <;> simp)
  have hBS : ∀ W1, Below W0.heap.size W0 W1 → Calls Tryz.prog 58 #[v, .string x.jid, .func (.func 59) #[] #[.pointer (some ⟨w.heap.size + 1, 0, none⟩)]] W1 _ := fun W1 h1 =>
    bsSub_any 59 #[.pointer (some ⟨w.heap.size + 1, 0, none⟩)] (enters_of Tryz.func59 (by kernel_rfl) rfl) x.jid v l W1 ((OwE.sl PSub.enc_len hown0).below h1) hr
      (fun y W hW => cmpSub_any y x.jid (w.heap.size + 1) W (((hxo.below h1).below hW).at 0 _ rfl)) (by omega)
  have hset := fun i h1 h2 h3 => setL_at (of := PSub.jid) x l i h1 h2 h3
  have eg : ∀ args w, (callFunc 27 args).run Tryz.prog w = .ok (.enter 27 args) w := enters_of Tryz.func27 (by kernel_rfl) rfl
  have HBS : Hid _ := hBS
  have HO := Lib.hid hO
  have HX := Lib.hid hx0
  have HN := Lib.hid hown0
  have HS := Lib.hid hset
  have HW := Lib.hid hW0
  have HB := Lib.hid hbw
  have HK := Lib.hid hs0
  clear hBS hO hset hx0 hxo hown0 hbw hW0 hs0
  rcases hown.2 with ⟨rfl, h0⟩ | ⟨g, c, cur, rfl, e2, e3, e4, e5, e6, e7⟩
  · obtain rfl : l = [] := List.eq_nil_of_length_eq_zero h0
    clear hown
    go_enter Tryz.func40, Tryz.ntmps40
    go_wp2_with fail
    rw [HW.out]
    go_at_fn 27
    with_reducible refine HO.out.mono ?_
    rintro e w1 ⟨rfl, hB1⟩
    go_wp2_with fail
    with_reducible refine (HBS.out w1 hB1).mono ?_
    rintro e w2 ⟨i, is, rfl, hB2, hi, hlo, hhi, his⟩
    obtain rfl : i = 0 := by simpa using hi
    obtain rfl : is = false := by simpa using his
    have hx2 := (HX.out.below hB1).below hB2
    have hx2_0 : w2.cell? ⟨w.heap.size, 0, none⟩ = some (.string x.jid) := hx2.at 0 _ rfl
    have hx2_1 : w2.cell? ⟨w.heap.size, 1, none⟩ = some (.bool x.pending) := hx2.at 1 _ rfl
    have hx2_2 : w2.cell? ⟨w.heap.size, 2, none⟩ = some (.int .i64 x.depth) := hx2.at 2 _ rfl
    have HX2 := Lib.hid hx2
    have HL := Lib.hid (HS.out 0 (Nat.le_refl _) hlo hhi)
    clear hx2 hlo hhi his
    go_wp2_with fail
    have hI := insSub_end base (.slice none 0 0) [] x w2.heap.size (w2.alloc (.cells #[.string x.jid, .bool x.pending, .int .i64 x.depth] 51)) (World.ownsRow_nil _ _ _ _) (by have := hB2.size; have := hB1.size; have := HK.out; simp; omega) (by simp) (RowI.new w2 _ x.enc [])
    change Calls _ _ #[_, .int .i64 0, _] _ _ at hI
    with_reducible refine hI.mono ?_
    rintro e w3 ⟨v', rfl, ho, hg⟩
    go_wp2_with fail
    go_returns
    exact ⟨_, rfl, ho, gTrans (gBelow ((HB.out.trans (hB1.mono HB.out.size)).trans (hB2.mono (Nat.le_trans HB.out.size hB1.size))) _) (gTrans (World.grownBy_alloc _ _ _) hg)⟩
  · clear e3 e6 e7
    go_enter Tryz.func40, Tryz.ntmps40
    go_wp2_with fail
    rw [HW.out]
    go_at_fn 27
    with_reducible refine HO.out.mono ?_
    rintro e w1 ⟨rfl, hB1⟩
    go_wp2_with fail
    with_reducible refine (HBS.out w1 hB1).mono ?_
    rintro e w2 ⟨i, is, rfl, hB2, hi, hlo, hhi, his⟩
    have hB02 : Below w.heap.size w w2 := (HB.out.trans (hB1.mono HB.out.size)).trans (hB2.mono (Nat.le_trans HB.out.size hB1.size))
    have hsz : w.heap.size ≤ w2.heap.size := hB02.size
    have hx2 := (HX.out.below hB1).below hB2
    have hx2_0 : w2.cell? ⟨w.heap.size, 0, none⟩ = some (.string x.jid) := hx2.at 0 _ rfl
    have hx2_1 : w2.cell? ⟨w.heap.size, 1, none⟩ = some (.bool x.pending) := hx2.at 1 _ rfl
    have hx2_2 : w2.cell? ⟨w.heap.size, 2, none⟩ = some (.int .i64 x.depth) := hx2.at 2 _ rfl
    have hrow : RowI w2 g 51 (c * 3) (l.flatMap PSub.enc) := (((RowI.of HN.out).1.below hB1).below hB2)
    have HX2 := Lib.hid hx2
    have HR2 := Lib.hid hrow
    have HB2 := Lib.hid hB02
    have HL := Lib.hid (HS.out i hi hlo hhi)
    have hglt : g < w.heap.size := by
      have h1 := (RowI.of hown).1.lt
      exact h1
    clear hx2 hlo hhi hB02 hown
    have hcl : l.length ≤ c := e4
    have mixed : Tryz.prog.follows .mixedOrders = true := by kernel_rfl
    by_cases hlt : i < l.length
    · rw [dif_pos hlt] at HL his
      cases is with
      | true =>
        have hT : setL PSub.jid x l = l.set i x := by rw [HL.out, if_pos his.symm]
        have hlenf : (l.flatMap PSub.enc).length = l.length * 3 := flat_len PSub.enc 3 PSub.enc_len l
        have hin : i * 3 + 3 ≤ (l.flatMap PSub.enc).length := by rw [hlenf]; omega
        have f0 : (w2).frozen? ⟨g, i * 3, none⟩ = false := (HR2.out).frozen _
        obtain ⟨o0, y0⟩ : ∃ o, (w2).cell? ⟨g, i * 3, none⟩ = some o := ⟨_, (HR2.out).at (i * 3) _ (List.getElem?_eq_getElem (by first | omega | (simp only [List.length_set]; omega)))⟩
        have hR1 := (HR2.out).set (i * 3) (by first | omega | (simp only [List.length_set]; omega)) (.string x.jid)
        have f1 : (w2.setCell ⟨g, i * 3, none⟩ (.string x.jid)).frozen? ⟨g, i * 3 + 1, none⟩ = false := (hR1).frozen _
        obtain ⟨o1, y1⟩ : ∃ o, (w2.setCell ⟨g, i * 3, none⟩ (.string x.jid)).cell? ⟨g, i * 3 + 1, none⟩ = some o := ⟨_, (hR1).at (i * 3 + 1) _ (List.getElem?_eq_getElem (by first | omega | (simp only [List.length_set]; omega)))⟩
        have hR2 := (hR1).set (i * 3 + 1) (by first | omega | (simp only [List.length_set]; omega)) (.bool x.pending)
        have f2 : ((w2.setCell ⟨g, i * 3, none⟩ (.string x.jid)).setCell ⟨g, i * 3 + 1, none⟩ (.bool x.pending)).frozen? ⟨g, i * 3 + 2, none⟩ = false := (hR2).frozen _
        obtain ⟨o2, y2⟩ : ∃ o, ((w2.setCell ⟨g, i * 3, none⟩ (.string x.jid)).setCell ⟨g, i * 3 + 1, none⟩ (.bool x.pending)).cell? ⟨g, i * 3 + 2, none⟩ = some o := ⟨_, (hR2).at (i * 3 + 2) _ (List.getElem?_eq_getElem (by first | omega | (simp only [List.length_set]; omega)))⟩
        have hR3 := (hR2).set (i * 3 + 2) (by first | omega | (simp only [List.length_set]; omega)) (.int .i64 x.depth)
        have hfin := hR3
        rw [show ((((l.flatMap PSub.enc).set (i * 3) (.string x.jid)).set (i * 3 + 1) (.bool x.pending)).set (i * 3 + 2) (.int .i64 x.depth)) = setsL (l.flatMap PSub.enc) (i * 3) x.enc from rfl, flat_set PSub.enc 3 PSub.enc_len l i hlt x] at hfin
        have HF := Lib.hid hfin
        have HT := Lib.hid hT
        clear his hT hlenf hin hfin hR1 hR2 hR3
        go_wp2_with fail
        go_returns
        refine ⟨_, rfl, ?_, gTrans (gBelow HB2.out _) (gTrans (gTrans (gTrans (gRefl _ _) (grown_set _)) (grown_set _)) (grown_set _))⟩
        rw [HT.out]
        unfold OwE
        rw [List.length_set]
        exact HF.out.own e2 (by rw [flat_len PSub.enc 3 PSub.enc_len, List.length_set]) hcl e5
      | false =>
        have hT : setL PSub.jid x l = l.take i ++ x :: l.drop i := by rw [HL.out, if_neg (by rw [← his]; simp)]
        have HT := Lib.hid hT
        clear his hT HL
        have hx3 := RowI.new w2 51 x.enc []
        have hrow3 := HR2.out.below ((Below.refl w2.heap.size w2).alloc (Nat.le_refl _) (.cells #[.string x.jid, .bool x.pending, .int .i64 x.depth] 51))
        have hI : Calls Tryz.prog 61 #[.slice (some ⟨g, 0, none⟩) l.length c, .int .i64 i, .slice (some ⟨w2.heap.size, 0, none⟩) 1 1] (w2.alloc (.cells #[.string x.jid, .bool x.pending, .int .i64 x.depth] 51)) fun e w' => ∃ v', e = .returned v' ∧ OwE PSub.enc 3 w' base 51 v' (l.take i ++ x :: l.drop i) ∧ (w2.alloc (.cells #[.string x.jid, .bool x.pending, .int .i64 x.depth] 51)).grownBy w' (some g) := by
          by_cases hroom : l.length + 1 ≤ c
          · exact insSub_shift base g c l i x w2.heap.size _ hrow3 e2 (by simp; omega) hlt (by omega) hroom e5 hx3 (by omega)
          · exact (insSub_grow base g c l i x w2.heap.size _ hrow3 (by simp; omega) hlt (by omega) (by omega) hcl hx3).mono fun e w' ⟨v', h1, h2, h3⟩ => ⟨v', h1, h2, gBelow h3 _⟩
        have HI := Lib.hid hI
        clear hI hx3 hrow3
        go_wp2_with fail
        with_reducible refine HI.out.mono ?_
        rintro e w3 ⟨v', rfl, ho, hg⟩
        go_wp2_with fail
        go_returns
        exact ⟨_, rfl, by rw [HT.out]; exact ho, gTrans (gBelow HB2.out _) (gTrans (World.grownBy_alloc _ _ _) hg)⟩
    · obtain rfl : i = l.length := by omega
      rw [dif_neg hlt] at HL his
      subst his
      have hT : setL PSub.jid x l = l ++ [x] := by rw [HL.out, List.take_length, List.drop_length]
      have HT := Lib.hid hT
      clear hT HL
      have hI := insSub_end base (.slice (some ⟨g, 0, none⟩) l.length c) l x w2.heap.size (w2.alloc (.cells #[.string x.jid, .bool x.pending, .int .i64 x.depth] 51)) (World.ownsRow.alloc (HR2.out.own e2 (flat_len PSub.enc 3 PSub.enc_len l) hcl e5) _) (by simp; omega) (by omega) (RowI.new w2 51 x.enc [])
      have HI := Lib.hid hI
      clear hI
      go_wp2_with fail
      with_reducible refine HI.out.mono ?_
      rintro e w3 ⟨v', rfl, ho, hg⟩
      go_wp2_with fail
      go_returns
      exact ⟨_, rfl, by rw [HT.out]; exact ho, gTrans (gBelow HB2.out _) (gTrans (World.grownBy_alloc _ _ _) hg)⟩
end Go.Proofs.YtpjaopcgoaannaaGreatDoor
