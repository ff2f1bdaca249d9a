/- node.own: a node with lists of its own. -/
import Derived.Test.YtpjaopcgoaannaaGreatDoorN11
import Derived.Deep.DeepCutAuto
namespace Go.Proofs.YtpjaopcgoaannaaGreatDoor
open Go.RowKit
open Hb

theorem SlE.one {α : Type} {enc : α → List Value} {k : Nat} {w : World} {v : Value} {l : List α} (h : SlE enc k w v l) : v.oneCell' = true := by
  obtain ⟨a, c, rfl, _⟩ := h
  rfl
/-- a node whose rows lie in new memory, each owned -/
def NodeO (w : World) (base : Nat) (v : Value) (n : PNode) : Prop := ∃ A S I, v = .agg #[.string n.name, .bool n.coll, .int .u8 n.access, .int .i64 n.max, A, S, I, .string n.parent] ∧ OwE PAff.enc 2 w base 49 A n.affs ∧ OwE PSub.enc 3 w base 51 S n.subs ∧ OwE PItem.enc 3 w base 53 I n.items
theorem NodeO.v {w : World} {base : Nat} {v : Value} {n : PNode} (h : NodeO w base v n) : NodeV w v n := by
  obtain ⟨A, S, I, e, a, s, i⟩ := h
  exact ⟨A, S, I, e, a.sl PAff.enc_len, s.sl PSub.enc_len, i.sl PItem.enc_len⟩
theorem OwE.below {α : Type} {enc : α → List Value} {k base : Nat} {T : TypeId} {w w' : World} {v : Value} {l : List α} (h : OwE enc k w base T v l) (hb : Below w.heap.size w w') : OwE enc k w' base T v l := World.ownsRow.kept h (gBelow hb none) (by cases v.ownBlock <;> simp)
theorem OwE.mono {α : Type} {enc : α → List Value} {k base base' : Nat} {T : TypeId} {w : World} {v : Value} {l : List α} (h : OwE enc k w base T v l) (hb : base' ≤ base) : OwE enc k w base' T v l := by
  rcases h.2 with h0 | ⟨g, cap, cur, e1, e2, e3⟩
  · exact ⟨h.1, .inl h0⟩
  · exact ⟨h.1, .inr ⟨g, cap, cur, e1, by omega, e3⟩⟩
/-- a row is not in the block of a box of another type -/
theorem OwE.ne {α : Type} {enc : α → List Value} {k base : Nat} {T T' : TypeId} {w : World} {v : Value} {l : List α} {b size : Nat} {xs : List Value} (h : OwE enc k w base T v l) (hr : RowI w b T' size xs) (ht : T ≠ T') : v.ownBlock ≠ some b := by
  intro e
  rcases h.2 with ⟨rfl, _⟩ | ⟨g, cap, cur, rfl, _, hg, _⟩
  · cases e
  · obtain ⟨ys, h1, _⟩ := hr
    obtain rfl : g = b := by simpa [Value.ownBlock] using e
    rw [hg] at h1
    cases h1
    exact ht rfl
theorem OwE.set {α : Type} {enc : α → List Value} {k base : Nat} {T : TypeId} {w : World} {v : Value} {l : List α} (h : OwE enc k w base T v l) {b j : Nat} (u : Value) (hne : v.ownBlock ≠ some b) : OwE enc k (w.setCell ⟨b, j, none⟩ u) base T v l :=
  World.ownsRow.kept h (grown_set u) (.inr hne)

set_option maxRecDepth 100000 in
set_option maxHeartbeats 4000000 in
theorem own_any (v : Value) (n : PNode) (w : World) (hv : NodeV w v n) (h1 : n.affs.length ≤ 100000000) (h2 : n.subs.length ≤ 100000000) (h3 : n.items.length ≤ 100000000) :
    Calls Tryz.prog 39 #[v] w fun e w' => ∃ v', e = .returned v' ∧ NodeO w' w.heap.size v' n ∧ Below w.heap.size w w' := by
  obtain ⟨A, S, I, rfl, hA, hS, hI⟩ := hv
  obtain ⟨aA, cA, rfl⟩ := hA.form
  obtain ⟨aS, cS, rfl⟩ := hS.form
  obtain ⟨aI, cI, rfl⟩ := hI.form
  obtain ⟨W0, hW0, hB0, hr1, hr2, hs⟩ := two w 27 27 [.string n.name, .bool n.coll, .int .u8 n.access, .int .i64 n.max, .slice aA n.affs.length cA, .slice aS n.subs.length cS, .slice aI n.items.length cI, .string n.parent] [.string ⟨#[]⟩, .bool false, .int .u8 0, .int .i64 0, .slice none 0 0, .slice none 0 0, .slice none 0 0, .string ⟨#[]⟩]
  have HA : Hid (∀ W, Below w.heap.size w W → Calls Tryz.prog 55 #[.slice aA n.affs.length cA] W fun e w' => ∃ v', e = .returned v' ∧ OwE PAff.enc 2 w' W.heap.size 49 v' n.affs ∧ Below W.heap.size W w') := fun W hW => cloneAff_any _ n.affs W (hA.below hW) h1
  have HS : Hid (∀ W, Below w.heap.size w W → Calls Tryz.prog 56 #[.slice aS n.subs.length cS] W fun e w' => ∃ v', e = .returned v' ∧ OwE PSub.enc 3 w' W.heap.size 51 v' n.subs ∧ Below W.heap.size W w') := fun W hW => cloneSub_any _ n.subs W (hS.below hW) h2
  have HI : Hid (∀ W, Below w.heap.size w W → Calls Tryz.prog 57 #[.slice aI n.items.length cI] W fun e w' => ∃ v', e = .returned v' ∧ OwE PItem.enc 3 w' W.heap.size 53 v' n.items ∧ Below W.heap.size W w') := fun W hW => cloneItem_any _ n.items W (hI.below hW) h3
  have HW := Lib.hid hW0
  have HR := Lib.hid hr1
  have HR2 := Lib.hid hr2
  have HB := Lib.hid hB0
  clear hA hS hI hr1 hr2 hW0
  generalize hf0 : n.name = f0 at *
  generalize hf1 : n.coll = f1 at *
  generalize hf2 : n.access = f2 at *
  generalize hf3 : n.max = f3 at *
  generalize hf7 : n.parent = f7 at *
  have HFN := Lib.hid (And.intro hf0 (And.intro hf1 (And.intro hf2 (And.intro hf3 hf7))))
  clear hf0 hf1 hf2 hf3 hf7
  obtain ⟨nb, hnb⟩ : ∃ nb, w.heap.size = nb := ⟨_, rfl⟩
  have c4 : W0.cell? ⟨w.heap.size, 4, none⟩ = some (.slice aA n.affs.length cA) := HR.out.at 4 _ rfl
  have c5 : W0.cell? ⟨w.heap.size, 5, none⟩ = some (.slice aS n.subs.length cS) := HR.out.at 5 _ rfl
  have c6 : W0.cell? ⟨w.heap.size, 6, none⟩ = some (.slice aI n.items.length cI) := HR.out.at 6 _ rfl
  have HA0 := Lib.hid (HA.out W0.drew HB.out.drew)
  have HBd : Hid (Below w.heap.size w W0.drew) := HB.out.drew
  have HRd : Hid (RowI W0.drew w.heap.size 27 _ _) := HR.out
  have HR2d : Hid (RowI W0.drew (w.heap.size + 1) 27 _ _) := HR2.out
  have mixed : Tryz.prog.follows .mixedOrders = true := by kernel_rfl
  clear HA hB0 hs hnb
  go_enter Tryz.func39, Tryz.ntmps39
  go_upto_region 1 with fail
  rw [HW.out]
  go_cut [] (fun wx => ∃ vA vS vI : Value, Hid (OwE PAff.enc 2 wx w.heap.size 49 vA n.affs ∧ OwE PSub.enc 3 wx w.heap.size 51 vS n.subs ∧ OwE PItem.enc 3 wx w.heap.size 53 vI n.items) ∧ Hid (RowI wx w.heap.size 27 8 [.string f0, .bool f1, .int .u8 f2, .int .i64 f3, vA, vS, vI, .string f7]) ∧ Hid (RowI wx (w.heap.size + 1) 27 8 [.string ⟨#[]⟩, .bool false, .int .u8 0, .int .i64 0, .slice none 0 0, .slice none 0 0, .slice none 0 0, .string ⟨#[]⟩]) ∧ Hid (Below w.heap.size w wx))
  case first =>
   go_region_with (first
    | (go_at_call 55; refine HA0.out.mono ?_; rintro e wA ⟨vA, rfl, hoA, hbA⟩; obtain ⟨qA, kA, rfl⟩ := row_slice hoA; have hBA := HBd.out.trans (hbA.mono HBd.out.size); have RA := Lib.hid (HRd.out.below hbA); have RA2 := Lib.hid (HR2d.out.below hbA); have cA5 := RA.out.at 5 _ rfl; have cA6 := RA.out.at 6 _ rfl)
    | (go_at_call 56; refine (HS.out wA hBA).mono ?_; rintro e wS ⟨vS, rfl, hoS, hbS⟩; obtain ⟨qS, kS, rfl⟩ := row_slice hoS; have hBS := hBA.trans (hbS.mono hBA.size); have RS := Lib.hid (RA.out.below hbS); have RS2 := Lib.hid (RA2.out.below hbS); have cS6 := RS.out.at 6 _ rfl)
    | (go_at_call 57; refine (HI.out wS hBS).mono ?_; rintro e wI ⟨vI, rfl, hoI, hbI⟩; obtain ⟨qI, kI, rfl⟩ := row_slice hoI; have hBI := hBS.trans (hbI.mono hBS.size); have RI := Lib.hid (RS.out.below hbI); have RI2 := Lib.hid (RS2.out.below hbI); have d4 := RI.out.at 4 _ rfl; have d5 := RI.out.at 5 _ rfl; have d6 := RI.out.at 6 _ rfl; have df : ∀ j, wI.frozen? ⟨w.heap.size, j, none⟩ = false := fun j => RI.out.frozen j))
   all_goals go_wp2_with fail
   all_goals go_meet
   all_goals (
    have r4 := RI.out.set 4 (by simp) (.slice qA n.affs.length kA)
    have r5 := r4.set 5 (by simp) (.slice qS n.subs.length kS)
    have r6 := r5.set 6 (by simp) (.slice qI n.items.length kI)
    have hoA' := (hoA.below hbS).below hbI
    have hoS' := hoS.below hbI
    have nA := hoA'.ne RI.out (by decide)
    have nS := hoS'.ne RI.out (by decide)
    have nI := hoI.ne RI.out (by decide)
    refine ⟨.slice qA n.affs.length kA, .slice qS n.subs.length kS, .slice qI n.items.length kI, (show Hid _ from ⟨?_, ?_, ?_⟩), (show Hid _ from r6), (show Hid _ from ?_), (show Hid _ from ?_)⟩
    · exact OwE.mono (((hoA'.set _ nA).set _ nA).set _ nA) (by first | exact HBd.out.size | exact hBA.size | exact hBS.size)
    · exact OwE.mono (((hoS'.set _ nS).set _ nS).set _ nS) (by first | exact HBd.out.size | exact hBA.size | exact hBS.size)
    · exact OwE.mono (((hoI.set _ nI).set _ nI).set _ nI) (by first | exact HBd.out.size | exact hBA.size | exact hBS.size)
    · exact RI2.out.kept ((Below.heap_setCell _ _ _ _ (by simp)).trans ((Below.heap_setCell _ _ _ _ (by simp)).trans (Below.heap_setCell _ _ _ _ (by simp))))
    · exact ((hBI.setCell (Nat.le_refl _) _).setCell (Nat.le_refl _) _).setCell (Nat.le_refl _) _)
  case rest =>
    obtain ⟨vA, vS, vI, hO, hR, hR2, hB⟩ := hcut
    obtain ⟨qA, kA, rfl⟩ := row_slice hO.out.1
    obtain ⟨qS, kS, rfl⟩ := row_slice hO.out.2.1
    obtain ⟨qI, kI, rfl⟩ := row_slice hO.out.2.2
    have R1 := hR.out
    have R2 := hR2.out
    have l0 := R1.at 0 _ rfl
    have l1 := R1.at 1 _ rfl
    have l2 := R1.at 2 _ rfl
    have l3 := R1.at 3 _ rfl
    have l4 := R1.at 4 _ rfl
    have l5 := R1.at 5 _ rfl
    have l6 := R1.at 6 _ rfl
    have l7 := R1.at 7 _ rfl
    have sf0 : (wc).frozen? ⟨w.heap.size + 1, 0, none⟩ = false := (R2).frozen 0
    have sc0 := (R2).at 0 _ rfl
    have sr0 := (R2).set 0 (by first | decide | simp) (.string f0)
    have sg0 := (sr0).at 0 _ rfl
    have sf1 : ((wc).setCell ⟨w.heap.size + 1, 0, none⟩ (.string f0)).frozen? ⟨w.heap.size + 1, 1, none⟩ = false := (sr0).frozen 1
    have sc1 := (sr0).at 1 _ rfl
    have sr1 := (sr0).set 1 (by first | decide | simp) (.bool f1)
    have sg1 := (sr1).at 1 _ rfl
    have sf2 : (((wc).setCell ⟨w.heap.size + 1, 0, none⟩ (.string f0)).setCell ⟨w.heap.size + 1, 1, none⟩ (.bool f1)).frozen? ⟨w.heap.size + 1, 2, none⟩ = false := (sr1).frozen 2
    have sc2 := (sr1).at 2 _ rfl
    have sr2 := (sr1).set 2 (by first | decide | simp) (.int .u8 f2)
    have sg2 := (sr2).at 2 _ rfl
    have sf3 : ((((wc).setCell ⟨w.heap.size + 1, 0, none⟩ (.string f0)).setCell ⟨w.heap.size + 1, 1, none⟩ (.bool f1)).setCell ⟨w.heap.size + 1, 2, none⟩ (.int .u8 f2)).frozen? ⟨w.heap.size + 1, 3, none⟩ = false := (sr2).frozen 3
    have sc3 := (sr2).at 3 _ rfl
    have sr3 := (sr2).set 3 (by first | decide | simp) (.int .i64 f3)
    have sg3 := (sr3).at 3 _ rfl
    have sf4 : (((((wc).setCell ⟨w.heap.size + 1, 0, none⟩ (.string f0)).setCell ⟨w.heap.size + 1, 1, none⟩ (.bool f1)).setCell ⟨w.heap.size + 1, 2, none⟩ (.int .u8 f2)).setCell ⟨w.heap.size + 1, 3, none⟩ (.int .i64 f3)).frozen? ⟨w.heap.size + 1, 4, none⟩ = false := (sr3).frozen 4
    have sc4 := (sr3).at 4 _ rfl
    have sr4 := (sr3).set 4 (by first | decide | simp) (.slice qA n.affs.length kA)
    have sg4 := (sr4).at 4 _ rfl
    have sf5 : ((((((wc).setCell ⟨w.heap.size + 1, 0, none⟩ (.string f0)).setCell ⟨w.heap.size + 1, 1, none⟩ (.bool f1)).setCell ⟨w.heap.size + 1, 2, none⟩ (.int .u8 f2)).setCell ⟨w.heap.size + 1, 3, none⟩ (.int .i64 f3)).setCell ⟨w.heap.size + 1, 4, none⟩ (.slice qA n.affs.length kA)).frozen? ⟨w.heap.size + 1, 5, none⟩ = false := (sr4).frozen 5
    have sc5 := (sr4).at 5 _ rfl
    have sr5 := (sr4).set 5 (by first | decide | simp) (.slice qS n.subs.length kS)
    have sg5 := (sr5).at 5 _ rfl
    have sf6 : (((((((wc).setCell ⟨w.heap.size + 1, 0, none⟩ (.string f0)).setCell ⟨w.heap.size + 1, 1, none⟩ (.bool f1)).setCell ⟨w.heap.size + 1, 2, none⟩ (.int .u8 f2)).setCell ⟨w.heap.size + 1, 3, none⟩ (.int .i64 f3)).setCell ⟨w.heap.size + 1, 4, none⟩ (.slice qA n.affs.length kA)).setCell ⟨w.heap.size + 1, 5, none⟩ (.slice qS n.subs.length kS)).frozen? ⟨w.heap.size + 1, 6, none⟩ = false := (sr5).frozen 6
    have sc6 := (sr5).at 6 _ rfl
    have sr6 := (sr5).set 6 (by first | decide | simp) (.slice qI n.items.length kI)
    have sg6 := (sr6).at 6 _ rfl
    have sf7 : ((((((((wc).setCell ⟨w.heap.size + 1, 0, none⟩ (.string f0)).setCell ⟨w.heap.size + 1, 1, none⟩ (.bool f1)).setCell ⟨w.heap.size + 1, 2, none⟩ (.int .u8 f2)).setCell ⟨w.heap.size + 1, 3, none⟩ (.int .i64 f3)).setCell ⟨w.heap.size + 1, 4, none⟩ (.slice qA n.affs.length kA)).setCell ⟨w.heap.size + 1, 5, none⟩ (.slice qS n.subs.length kS)).setCell ⟨w.heap.size + 1, 6, none⟩ (.slice qI n.items.length kI)).frozen? ⟨w.heap.size + 1, 7, none⟩ = false := (sr6).frozen 7
    have sc7 := (sr6).at 7 _ rfl
    have sr7 := (sr6).set 7 (by first | decide | simp) (.string f7)
    have sg7 := (sr7).at 7 _ rfl
    have HF := Lib.hid sr7
    clear R1 R2 sr0 sr1 sr2 sr3 sr4 sr5 sr6 sr7
    go_wp2_with fail
    refine bodyPost_ret (by simp [results, Tryz.results39, go_sem, sg0, sg1, sg2, sg3, sg4, sg5, sg6, sg7]; try rfl) rfl ?_
    obtain ⟨hf0, hf1, hf2, hf3, hf7⟩ := HFN.out
    have nA := hO.out.1.ne hR2.out (by decide)
    have nS := hO.out.2.1.ne hR2.out (by decide)
    have nI := hO.out.2.2.ne hR2.out (by decide)
    have hle : w.heap.size ≤ w.heap.size + 1 := Nat.le_succ _
    refine ⟨_, rfl, ⟨.slice qA n.affs.length kA, .slice qS n.subs.length kS, .slice qI n.items.length kI, by rw [hf0, hf1, hf2, hf3, hf7], ?_, ?_, ?_⟩, ?_⟩
    · exact ((((((((hO.out.1.set _ nA).set _ nA).set _ nA).set _ nA).set _ nA).set _ nA).set _ nA).set _ nA)
    · exact ((((((((hO.out.2.1.set _ nS).set _ nS).set _ nS).set _ nS).set _ nS).set _ nS).set _ nS).set _ nS)
    · exact ((((((((hO.out.2.2.set _ nI).set _ nI).set _ nI).set _ nI).set _ nI).set _ nI).set _ nI).set _ nI)
    · exact ((((((((hB.out.setCell hle _).setCell hle _).setCell hle _).setCell hle _).setCell hle _).setCell hle _).setCell hle _).setCell hle _)
end Go.Proofs.YtpjaopcgoaannaaGreatDoor
