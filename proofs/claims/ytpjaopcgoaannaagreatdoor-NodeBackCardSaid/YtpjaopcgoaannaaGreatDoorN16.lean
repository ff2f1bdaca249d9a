/- node.Right. -/
import Derived.Test.YtpjaopcgoaannaaGreatDoorN12
import Derived.Test.YtpjaopcgoaannaaGreatDoorN15
import Derived.Test.YtpjaopcgoaannaaGreatDoorN17
import Derived.Deep.LoopGhost
import Derived.Deep.DeepCutAuto
namespace Go.Proofs.YtpjaopcgoaannaaGreatDoor
open Go.RowKit Go.Lib
open Hb

def pr : Preds := ⟨nameB, addrB, bodyB⟩
abbrev Sm (s : ByteArray) : Prop := s.size ≤ 9223372036854775806
/-- what every node in memory meets: rows of no great length, texts of no impossible size -/
structure Bd (n : PNode) : Prop where
  name : Sm n.name
  parent : Sm n.parent
  aff : ∀ x ∈ n.affs, Sm x.jid
  sub : ∀ x ∈ n.subs, Sm x.jid
  item : ∀ x ∈ n.items, Sm x.id ∧ Sm x.pub ∧ Sm x.text
  affs : n.affs.length ≤ 1000
  subs : n.subs.length ≤ 1000
  items : n.items.length ≤ 1000

theorem depth_any (x : PSub) (w : World) : Calls Tryz.prog 31 #[.agg x.enc.toArray] w fun e w' => e = .returned (.bool (depthBad x)) ∧ Below w.heap.size w w' := by
  have hd : depthBad x = (decide (x.depth < 0) || decide (255 < x.depth)) := rfl
  unfold PSub.enc
  rw [hd]
  clear hd
  generalize x.jid = a
  generalize x.pending = a1
  generalize x.depth = a2
  by_cases h : a2 < 0
  · rw [decide_eq_true h]
    go_enter Tryz.func31, Tryz.ntmps31
    go_wp2_with fail
    go_returns
    exact ⟨rfl, (Below.refl _ _).alloc (Nat.le_refl _) _⟩
  · rw [decide_eq_false h]
    go_enter Tryz.func31, Tryz.ntmps31
    go_wp2_with fail
    go_returns
    exact ⟨by simp, (Below.refl _ _).alloc (Nat.le_refl _) _⟩

/-- what the heads of a node come to -/
def headE (nm : Bool) (access max most : Int) (par nmp : Bool) : Bool := nm && decide (access ≤ 2) && decide (0 ≤ max) && decide (max ≤ most) && (par || nmp)

set_option maxRecDepth 100000 in
set_option maxHeartbeats 8000000 in
theorem right_any (v : Value) (n : PNode) (w : World) (hv : NodeV w v n) (hbd : Bd n) :
    Calls Tryz.prog 9 #[v] w fun e w' => e = .returned (.bool (rightN pr n)) ∧ Below w.heap.size w w' := by
  obtain ⟨A, S, I, rfl, hA, hS, hI⟩ := hv
  obtain ⟨aA, cA, rfl⟩ := hA.form
  obtain ⟨aS, cS, rfl⟩ := hS.form
  obtain ⟨aI, cI, rfl⟩ := hI.form
  obtain ⟨W0, hW0, hB0, hr1, hs⟩ := one w 27 [.string n.name, .bool n.coll, .int .u8 n.access, .int .i64 n.max, .slice aA n.affs.length cA, .slice aS n.subs.length cS, .slice aI n.items.length cI, .string n.parent]
  have HNm : Hid (∀ W, Calls Tryz.prog 23 #[.string n.name] W fun e w' => e = .returned (.bool (nameB n.name)) ∧ Below W.heap.size W w') := fun W => name_any _ W hbd.name
  have HPa : Hid (∀ W, Calls Tryz.prog 23 #[.string n.parent] W fun e w' => e = .returned (.bool (nameB n.parent)) ∧ Below W.heap.size W w') := fun W => name_any _ W hbd.parent
  have HRA : Hid (∀ W, Below w.heap.size w W → Calls Tryz.prog 24 #[.slice aA n.affs.length cA, .func (.func 25) #[] #[]] W fun e w' => e = .returned (.bool (risingL PAff.jid addrB n.affs)) ∧ Below W.heap.size W w') := fun W hW => risingAff_any _ _ W (hA.below hW) hbd.affs hbd.aff
  have HRS : Hid (∀ W, Below w.heap.size w W → Calls Tryz.prog 26 #[.slice aS n.subs.length cS, .func (.func 27) #[] #[]] W fun e w' => e = .returned (.bool (risingL PSub.jid addrB n.subs)) ∧ Below W.heap.size W w') := fun W hW => risingSub_any _ _ W (hS.below hW) hbd.subs hbd.sub
  have HCo : Hid (∀ W, Below w.heap.size w W → Calls Tryz.prog 30 #[.slice aS n.subs.length cS, .func (.func 31) #[] #[]] W fun e w' => e = .returned (.bool (n.subs.any depthBad)) ∧ Below W.heap.size W w') := fun W hW => conSub_any 31 #[] (enters_of Tryz.func31 (by kernel_rfl) rfl) depthBad _ n.subs W (hS.below hW) (fun x W' _ => depth_any x W') (by have := hbd.subs; omega)
  have HW := Lib.hid hW0
  have HB := Lib.hid hB0
  have HR := Lib.hid hr1
  have HA := Lib.hid hA
  have HI := Lib.hid hI
  have HD := Lib.hid hbd
  have HE : Hid (rightN pr n = (headE (nameB n.name) n.access n.max (if n.coll then 0 else 8) (eqS n.parent ⟨#[]⟩) (nameB n.parent) && risingL PAff.jid addrB n.affs && risingL PSub.jid addrB n.subs && decide ((n.items.length : Int) ≤ n.max) && n.affs.all roleOk && itemsR pr [] n.items && (n.affs.any fun a => a.role == 5) && !n.subs.any depthBad)) := rfl
  have hpe : eqS n.parent ⟨#[]⟩ = (n.parent.toList == []) := by unfold eqS; rw [show (ByteArray.mk #[]).toList = [] by rw [ByteArray.toList_eq]]
  rw [hpe] at HE
  clear hpe hW0 hB0 hr1 hA hS hI hbd hs
  generalize nameB n.name = bn at *
  generalize nameB n.parent = bp at *
  generalize n.name = f0 at *
  generalize n.coll = f1 at *
  generalize n.access = f2 at *
  generalize n.max = f3 at *
  generalize n.parent = f7 at *
  have c0 : W0.cell? ⟨w.heap.size, 0, none⟩ = some (.string f0) := HR.out.at 0 _ rfl
  have c1 : W0.cell? ⟨w.heap.size, 1, none⟩ = some (.bool f1) := HR.out.at 1 _ rfl
  go_enter Tryz.func9, Tryz.ntmps9
  go_upto_if 12 with fail
  rw [HW.out]
  go_cut [3] (fun s wx => s = .int .i64 (if f1 then 0 else 8) ∧ wx = W0)
  case first =>
    cases f1 with
    | true =>
      go_wp2_with fail
      go_meet
      exact ⟨rfl, rfl⟩
    | false =>
      go_wp2_with fail
      go_meet
      exact ⟨rfl, rfl⟩
  case rest =>
  obtain ⟨rfl, rfl⟩ := hcut
  obtain ⟨most, hmost⟩ : ∃ most : Int, (if f1 then 0 else 8) = most := ⟨_, rfl⟩
  rw [hmost] at HE ⊢
  have hmost8 : most ≤ 8 := by rw [← hmost]; split <;> decide
  clear hmost
  have c2 : wc.cell? ⟨w.heap.size, 2, none⟩ = some (.int .u8 f2) := HR.out.at 2 _ rfl
  have c3 : wc.cell? ⟨w.heap.size, 3, none⟩ = some (.int .i64 f3) := HR.out.at 3 _ rfl
  have c7 : wc.cell? ⟨w.heap.size, 7, none⟩ = some (.string f7) := HR.out.at 7 _ rfl
  go_upto_region 4 with fail
  obtain ⟨pe, hpe⟩ : ∃ pe, (f7.toList == []) = pe := ⟨_, rfl⟩
  rw [hpe] at HE
  go_cut [4] (fun s wx => s = .bool (headE bn f2 f3 most pe bp) ∧ Hid (Below w.heap.size w wx) ∧ Hid (RowI wx w.heap.size 27 8 [.string f0, .bool f1, .int .u8 f2, .int .i64 f3, .slice aA n.affs.length cA, .slice aS n.subs.length cS, .slice aI n.items.length cI, .string f7]))
  case first =>
    go_wp2_with fail
    (with_reducible refine (HNm.out _).mono ?_)
    rintro e w1 ⟨rfl, hB1⟩
    have hB01 : Below w.heap.size w w1 := HB.out.trans (hB1.mono HB.out.size)
    have HR1 := Lib.hid (HR.out.below hB1)
    have d2 : w1.cell? ⟨w.heap.size, 2, none⟩ = some (.int .u8 f2) := HR1.out.at 2 _ rfl
    have d3 : w1.cell? ⟨w.heap.size, 3, none⟩ = some (.int .i64 f3) := HR1.out.at 3 _ rfl
    have d7 : w1.cell? ⟨w.heap.size, 7, none⟩ = some (.string f7) := HR1.out.at 7 _ rfl
    have HBX := Lib.hid hB01
    clear HE HRA HRS HCo HA HI HD
    cases bn with
    | false =>
      have HF : Hid (headE false f2 f3 most pe bp = false) := by show _ = _; unfold headE; simp []
      go_wp2_with fail
      go_meet
      exact ⟨by rw [HF.out], (show Hid _ from hB01), (show Hid _ from HR1.out)⟩
    | true =>
      by_cases h2 : f2 ≤ 2
      · by_cases h3 : 0 ≤ f3
        · by_cases h4 : f3 ≤ most
          · cases pe with
            | true =>
              have HF : Hid (headE true f2 f3 most true bp = true) := by show _ = _; unfold headE; simp [h2, h3, h4]
              go_wp2_with fail
              go_meet
              exact ⟨by rw [HF.out], (show Hid _ from hB01), (show Hid _ from HR1.out)⟩
            | false =>
              have HF : Hid (headE true f2 f3 most false bp = bp) := by show _ = _; unfold headE; simp [h2, h3, h4]
              go_wp2_with fail
              (with_reducible refine (HPa.out _).mono ?_)
              rintro e w2 ⟨rfl, hB2⟩
              go_wp2_with fail
              have hB02 : Below w.heap.size w w2 := hB01.trans (hB2.mono hB01.size)
              go_meet
              exact ⟨by rw [HF.out], (show Hid _ from hB02), (show Hid _ from (HR1.out.below hB2))⟩
          · have hx : True := trivial
            have HF : Hid (headE true f2 f3 most pe bp = false) := by show _ = _; unfold headE; simp [h2, h3, h4]
            go_wp2_with fail
            go_meet
            exact ⟨by rw [HF.out], (show Hid _ from hB01), (show Hid _ from HR1.out)⟩
        · have hx : True := trivial
          have HF : Hid (headE true f2 f3 most pe bp = false) := by show _ = _; unfold headE; simp [h2, h3]
          go_wp2_with fail
          go_meet
          exact ⟨by rw [HF.out], (show Hid _ from hB01), (show Hid _ from HR1.out)⟩
      · have hx : True := trivial
        have HF : Hid (headE true f2 f3 most pe bp = false) := by show _ = _; unfold headE; simp [h2]
        go_wp2_with fail
        go_meet
        exact ⟨by rw [HF.out], (show Hid _ from hB01), (show Hid _ from HR1.out)⟩
  case rest =>
  obtain ⟨rfl, hB, hRw⟩ := hcut
  have HH : Hid (headE bn f2 f3 most pe bp = true → f3 ≤ 8) := fun q => by unfold headE at q; simp only [Bool.and_eq_true, decide_eq_true_eq] at q; omega
  generalize headE bn f2 f3 most pe bp = h at *
  have hle : ∀ z : Int, (decide ((n.items.length : Int) ≤ f3)) = (decide ((n.items.length : Int) ≤ f3)) := fun _ => rfl
  clear hle
  go_upto_region 5 with fail
  go_cut [63] (fun s wx => s = .bool (!(h && risingL PAff.jid addrB n.affs && risingL PSub.jid addrB n.subs && decide ((n.items.length : Int) ≤ f3))) ∧ Hid (Below w.heap.size w wx) ∧ Hid (RowI wx w.heap.size 27 8 [.string f0, .bool f1, .int .u8 f2, .int .i64 f3, .slice aA n.affs.length cA, .slice aS n.subs.length cS, .slice aI n.items.length cI, .string f7]))
  case first =>
    have c4 : wc.cell? ⟨w.heap.size, 4, none⟩ = some (.slice aA n.affs.length cA) := hRw.out.at 4 _ rfl
    have HRA1 := Lib.hid (HRA.out wc hB.out)
    clear HE HCo HA HI HD HRA HNm HPa hmost8
    generalize risingL PAff.jid addrB n.affs = ra at *
    generalize risingL PSub.jid addrB n.subs = rs at *
    cases h with
    | false =>
      go_wp2_with fail
      go_meet
      exact ⟨by simp, hB, hRw⟩
    | true =>
      go_wp2_with fail
      (with_reducible refine HRA1.out.mono ?_)
      rintro e w1 ⟨rfl, hB1⟩
      have hB01 : Below w.heap.size w w1 := hB.out.trans (hB1.mono hB.out.size)
      have HR1 := Lib.hid (hRw.out.below hB1)
      have d5 : w1.cell? ⟨w.heap.size, 5, none⟩ = some (.slice aS n.subs.length cS) := HR1.out.at 5 _ rfl
      have HRS1 := Lib.hid (HRS.out w1 hB01)
      clear HRS
      cases ra with
      | false =>
        go_wp2_with fail
        go_meet
        exact ⟨by simp, (show Hid _ from hB01), HR1⟩
      | true =>
        go_wp2_with fail
        (with_reducible refine HRS1.out.mono ?_)
        rintro e w2 ⟨rfl, hB2⟩
        have hB02 : Below w.heap.size w w2 := hB01.trans (hB2.mono hB01.size)
        have HR2 := Lib.hid (HR1.out.below hB2)
        have e6 : w2.cell? ⟨w.heap.size, 6, none⟩ = some (.slice aI n.items.length cI) := HR2.out.at 6 _ rfl
        have e3 : w2.cell? ⟨w.heap.size, 3, none⟩ = some (.int .i64 f3) := HR2.out.at 3 _ rfl
        cases rs with
        | false =>
          go_wp2_with fail
          go_meet
          exact ⟨by simp, (show Hid _ from hB02), HR2⟩
        | true =>
          by_cases hit : (n.items.length : Int) ≤ f3
          · have hg : ¬ f3 < (n.items.length : Int) := by omega
            have hg2 : decide (f3 < (n.items.length : Int)) = false := decide_eq_false hg
            have HF : Hid ((true && true && true && decide ((n.items.length : Int) ≤ f3)) = true) := by show _ = _; simp [hit]
            go_wp2_with fail
            go_meet
            exact ⟨by rw [HF.out]; rfl, (show Hid _ from hB02), HR2⟩
          · have hg : f3 < (n.items.length : Int) := by omega
            have hg2 : decide (f3 < (n.items.length : Int)) = true := decide_eq_true hg
            have HF : Hid ((true && true && true && decide ((n.items.length : Int) ≤ f3)) = false) := by show _ = _; simp [hit]
            go_wp2_with fail
            go_meet
            exact ⟨by rw [HF.out]; rfl, (show Hid _ from hB02), HR2⟩
  case rest =>
  clear hRw hB
  obtain ⟨rfl, hB, hRw⟩ := hcut
  cases hq : (h && risingL PAff.jid addrB n.affs && risingL PSub.jid addrB n.subs && decide ((n.items.length : Int) ≤ f3)) with
  | false =>
    rw [hq] at HE
    have HE2 : Hid (rightN pr n = false) := by show _ = _; rw [HE.out]; rfl
    clear HE hq
    go_wp2_with fail
    go_returns
    exact ⟨by rw [HE2.out]; rfl, hB.out⟩
  | true =>
    rw [hq] at HE
    simp only [Bool.not_true]
    have hit : n.items.length ≤ 8 := by simp only [Bool.and_eq_true, decide_eq_true_eq] at hq; have := HH.out hq.1.1.1; omega
    clear hq
    have c4 : wc.cell? ⟨w.heap.size, 4, none⟩ = some (.slice aA n.affs.length cA) := hRw.out.at 4 _ rfl
    have hla : n.affs.length ≤ 1000 := HD.out.affs
    go_wp2_with fail
    go_loopw [5, 7, 67] (fun o _ i W => ∃ k : Nat, k ≤ n.affs.length ∧ i = .int .i64 k ∧ o = .bool ((n.affs.take k).any fun a => a.role == 5) ∧ Hid ((n.affs.take k).all roleOk = true) ∧ Hid (Below w.heap.size w W) ∧ Hid (RowI W w.heap.size 27 8 [.string f0, .bool f1, .int .u8 f2, .int .i64 f3, .slice aA n.affs.length cA, .slice aS n.subs.length cS, .slice aI n.items.length cI, .string f7])) (fun _ _ i _ => n.affs.length - (intOf i).toNat)
    case atStart => exact ⟨0, Nat.zero_le _, rfl, rfl, (show Hid _ from rfl), hB, hRw⟩
    case round =>
      obtain ⟨k, hk, rfl, rfl, HC, hBr, hRr⟩ := hrel
      by_cases hlt : k < n.affs.length
      · obtain ⟨g, off, rfl, hx⟩ := HA.out.at k hlt
        have hg : g < w.heap.size := World.block_lt_of_cell? _ _ (hx 0 (by omega))
        obtain ⟨x, hxe⟩ : ∃ x, n.affs[k] = x := ⟨_, rfl⟩
        rw [hxe] at hx
        have y0 : wr.cell? ⟨g, off + k * 2, none⟩ = some (.string x.jid) := (hBr.out.cell (p := ⟨g, off + k * 2, none⟩) hg).trans (hx 0 (by omega))
        have y1 : wr.cell? ⟨g, off + k * 2 + 1, none⟩ = some (.int .u8 x.role) := (hBr.out.cell (p := ⟨g, off + k * 2 + 1, none⟩) hg).trans (hx 1 (by omega))
        have HT : Hid ((n.affs.take (k + 1)).all roleOk = roleOk x) := by show _ = _; rw [List.take_succ_eq_append_getElem hlt, List.all_append, HC.out, hxe]; simp
        have HO : Hid (((n.affs.take (k + 1)).any fun a => a.role == 5) = (((n.affs.take k).any fun a => a.role == 5) || x.role == 5)) := by show _ = _; rw [List.take_succ_eq_append_getElem hlt, List.any_append, hxe]; simp
        have HAll : Hid (roleOk x = false → rightN pr n = false) := fun q => by
          have : n.affs.all roleOk = false := by
            rw [List.all_eq_false]
            exact ⟨n.affs[k], List.getElem_mem _, by rw [hxe, q]; simp⟩
          rw [HE.out, this]
          simp
        have HBn : Hid (Below w.heap.size w (wr.alloc (.cells #[.string x.jid, .int .u8 x.role] 49))) := hBr.out.alloc hBr.out.size _
        have HRn := Lib.hid (hRr.out.below ((Below.refl wr.heap.size wr).alloc (Nat.le_refl _) (.cells #[.string x.jid, .int .u8 x.role] 49)))
        have hro : roleOk x = (x.role == 1 || x.role == 3 || x.role == 4 || x.role == 5) := rfl
        rw [hro] at HT HAll
        generalize ((n.affs.take k).any fun a => a.role == 5) = ow at *
        clear hro hx hxe HC HE HCo HA HI HD HRA HRS HNm HPa hmost8 HH
        generalize x.role = rr at *
        generalize x.jid = jj at *
        have hend : ∀ (rr' : Int) (b : Bool), True := fun _ _ => trivial
        clear hend
        by_cases h5 : rr = 5
        · subst h5
          have HTT : Hid ((n.affs.take (k + 1)).all roleOk = true) := by show _ = _; rw [HT.out]; rfl
          clear HT HAll
          go_wp2_with fail
          go_roundw
          case rel => exact ⟨k + 1, by omega, by go_num, by rw [HO.out]; simp, HTT, HBn, HRn⟩
          case measure => simp [intOf]; omega
        have e5 : (rr == 5) = false := beq_eq_false_iff_ne.2 h5
        by_cases h1 : rr = 1
        · subst h1
          have HTT : Hid ((n.affs.take (k + 1)).all roleOk = true) := by show _ = _; rw [HT.out]; rfl
          clear HT HAll
          go_wp2_with fail
          go_roundw
          case rel => exact ⟨k + 1, by omega, by go_num, by rw [HO.out]; simp, HTT, HBn, HRn⟩
          case measure => simp [intOf]; omega
        have e1 : (rr == 1) = false := beq_eq_false_iff_ne.2 h1
        by_cases h3 : rr = 3
        · subst h3
          have HTT : Hid ((n.affs.take (k + 1)).all roleOk = true) := by show _ = _; rw [HT.out]; rfl
          clear HT HAll
          go_wp2_with fail
          go_roundw
          case rel => exact ⟨k + 1, by omega, by go_num, by rw [HO.out]; simp, HTT, HBn, HRn⟩
          case measure => simp [intOf]; omega
        have e3 : (rr == 3) = false := beq_eq_false_iff_ne.2 h3
        by_cases h4 : rr = 4
        · subst h4
          have HTT : Hid ((n.affs.take (k + 1)).all roleOk = true) := by show _ = _; rw [HT.out]; rfl
          clear HT HAll
          go_wp2_with fail
          go_roundw
          case rel => exact ⟨k + 1, by omega, by go_num, by rw [HO.out]; simp, HTT, HBn, HRn⟩
          case measure => simp [intOf]; omega
        have e4 : (rr == 4) = false := beq_eq_false_iff_ne.2 h4
        have HRF : Hid (rightN pr n = false) := HAll.out (by rw [e1, e3, e4, e5]; rfl)
        clear HT HAll h5 h1 h3 h4
        go_wp2_with fail
        go_returns
        exact ⟨by rw [HRF.out]; rfl, HBn.out⟩
      · have hkl : k = n.affs.length := by omega
        subst hkl
        rw [List.take_length] at HC ⊢
        have HE3 : Hid (rightN pr n = (itemsR pr [] n.items && (n.affs.any fun a => a.role == 5) && !n.subs.any depthBad)) := by show _ = _; rw [HE.out, HC.out]; simp
        generalize (n.affs.any fun a => a.role == 5) = ow at *
        have b6 : wr.cell? ⟨w.heap.size, 6, none⟩ = some (.slice aI n.items.length cI) := hRr.out.at 6 _ rfl
        have b6' := Lib.cell?_alloc_some (.map #[] 0) b6
        have HII := Lib.hid HD.out.item
        have zb : ∀ w, (zeroValue 4).run Tryz.prog w = .ok (.bool false) w := Tryz.zeroValue4
        have HMN : Hid (MapB (wr.alloc (.map #[] 0)) wr.heap.size []) := MapB.new wr
        have HBN : Hid (Below w.heap.size w (wr.alloc (.map #[] 0))) := hBr.out.alloc hBr.out.size _
        have HRN := Lib.hid (hRr.out.below ((Below.refl wr.heap.size wr).alloc (Nat.le_refl _) (.map #[] 0)))
        obtain ⟨mb, hmb⟩ : ∃ mb, wr.heap.size = mb := ⟨_, rfl⟩
        rw [hmb] at HMN
        have hmlt : w.heap.size < mb := by rw [← hmb]; exact hRr.out.lt
        have HML := Lib.hid hmlt
        clear hmlt
        clear HE HC HA HD HRA HRS HNm HPa hmost8 HH
        have hmm : ∀ (t : TypeId) (w : World), Sem.run Tryz.prog (Instr.makeMap t none) w = Result.ok (Value.map (some w.heap.size)) (w.alloc (Obj.map #[] 0)) := fun _ _ => rfl
        go_upto_region 20 with fail
        clear hmm hmb
        generalize wr.alloc (.map #[] 0) = wm at *
        go_wp2_with fail
        go_loopw [10, 84] (fun _ i W => ∃ k : Nat, k ≤ n.items.length ∧ i = .int .i64 k ∧ Hid (itemsR pr [] n.items = itemsR pr ((n.items.take k).map PItem.id) (n.items.drop k)) ∧ Hid (MapB W mb ((n.items.take k).map PItem.id)) ∧ Hid (Below w.heap.size w W) ∧ Hid (RowI W w.heap.size 27 8 [.string f0, .bool f1, .int .u8 f2, .int .i64 f3, .slice aA n.affs.length cA, .slice aS n.subs.length cS, .slice aI n.items.length cI, .string f7])) (fun _ i _ => n.items.length - (intOf i).toNat)
        case atStart => exact ⟨0, Nat.zero_le _, rfl, (show Hid _ from rfl), HMN, HBN, HRN⟩
        case round =>
          clear HMN HBN HRN hBr hRr b6 b6'
          obtain ⟨k, hk, rfl, HC, hM, hBr, hRr⟩ := hrel
          by_cases hlt : k < n.items.length
          · obtain ⟨g, off, rfl, hx⟩ := HI.out.at k hlt
            have hg : g < w.heap.size := World.block_lt_of_cell? _ _ (hx 0 (by omega))
            have hsz := HII.out _ (List.getElem_mem hlt)
            obtain ⟨x, hxe⟩ : ∃ x, n.items[k] = x := ⟨_, rfl⟩
            have HDr : Hid (itemsR pr ((n.items.take k).map PItem.id) (n.items.drop k) = (!(((n.items.take k).map PItem.id).any fun y => eqS y x.id) && nameB x.id && addrB x.pub && bodyB x.text && itemsR pr ((n.items.take (k + 1)).map PItem.id) (n.items.drop (k + 1)))) := by
              show _ = _
              rw [List.drop_eq_getElem_cons hlt, List.take_succ_eq_append_getElem hlt, List.map_append, hxe]
              rfl
            have htk : (n.items.take (k + 1)).map PItem.id = (n.items.take k).map PItem.id ++ [x.id] := by rw [List.take_succ_eq_append_getElem hlt, List.map_append, hxe]; rfl
            rw [hxe] at hx hsz
            have y0 : wr.cell? ⟨g, off + k * 3, none⟩ = some (.string x.id) := (hBr.out.cell (p := ⟨g, off + k * 3, none⟩) hg).trans (hx 0 (by omega))
            have y1 : wr.cell? ⟨g, off + k * 3 + 1, none⟩ = some (.string x.pub) := (hBr.out.cell (p := ⟨g, off + k * 3 + 1, none⟩) hg).trans (hx 1 (by omega))
            have y2 : wr.cell? ⟨g, off + k * 3 + 2, none⟩ = some (.string x.text) := (hBr.out.cell (p := ⟨g, off + k * 3 + 2, none⟩) hg).trans (hx 2 (by omega))
            have HNx : Hid (∀ W, Calls Tryz.prog 23 #[.string x.id] W fun e w' => e = .returned (.bool (nameB x.id)) ∧ Below W.heap.size W w') := fun W => name_any _ W hsz.1
            have HAx : Hid (∀ W, Calls Tryz.prog 28 #[.string x.pub] W fun e w' => e = .returned (.bool (addrB x.pub)) ∧ Below W.heap.size W w') := fun W => addr_any _ W hsz.2.1
            have HBx : Hid (∀ W, Calls Tryz.prog 29 #[.string x.text] W fun e w' => e = .returned (.bool (bodyB x.text)) ∧ Below W.heap.size W w') := fun W => body_any _ W hsz.2.2
            obtain ⟨W0, hW0, hB0, hr0, hs0⟩ := one wr 53 [.string x.id, .string x.pub, .string x.text]
            have HW0 := Lib.hid hW0
            have HRX := Lib.hid hr0
            have hM0 := hM.out.below hB0
            have hB0w := hBr.out.trans (hB0.mono hBr.out.size)
            have HB0w := Lib.hid hB0w
            have HR0 := Lib.hid (hRr.out.below hB0)
            have hlk := hM0.look (P := Tryz.prog) Tryz.underlying75 Tryz.underlying9 zb x.id
            have HM0 := Lib.hid hM0
            have z0 : W0.cell? ⟨wr.heap.size, 0, none⟩ = some (.string x.id) := HRX.out.at 0 _ rfl
            have HTK := Lib.hid htk
            have HFa : Hid (∀ b : Bool, itemsR pr [] n.items = false → rightN pr n = false) := fun _ q => by rw [HE3.out, q]; rfl
            clear hx hxe hsz htk hW0 hr0 hs0 hB0w hM0 HII
            cases hsn : (((n.items.take k).map PItem.id).any fun y => eqS y x.id) with
            | true =>
              rw [hsn] at hlk HDr
              have HRF : Hid (rightN pr n = false) := HFa.out true (by rw [HC.out, HDr.out]; rfl)
              clear hsn HC HDr HE3 HFa
              go_upto_region 23 with fail
              rw [HW0.out]
              go_wp2_with fail
              go_returns
              exact ⟨by rw [HRF.out]; rfl, HB0w.out⟩
            | false =>
              rw [hsn] at hlk HDr
              go_upto_region 23 with fail
              rw [HW0.out]
              go_wp2_with fail
              (with_reducible refine (HNx.out _).mono ?_)
              rintro e w1 ⟨rfl, hB1⟩
              have HB1w := Lib.hid (HB0w.out.trans (hB1.mono HB0w.out.size))
              have HRX1 := Lib.hid (HRX.out.below hB1)
              have HM1 := Lib.hid (HM0.out.below hB1)
              have HR1 := Lib.hid (HR0.out.below hB1)
              have x1 : w1.cell? ⟨wr.heap.size, 1, none⟩ = some (.string x.pub) := HRX1.out.at 1 _ rfl
              cases hnm : nameB x.id with
              | false =>
                rw [hnm] at HDr
                have HRF : Hid (rightN pr n = false) := HFa.out true (by rw [HC.out, HDr.out]; rfl)
                clear hsn HC HDr HE3 HFa
                go_wp2_with fail
                go_returns
                exact ⟨by rw [HRF.out]; rfl, HB1w.out⟩
              | true =>
                rw [hnm] at HDr
                go_wp2_with fail
                (with_reducible refine (HAx.out _).mono ?_)
                rintro e w2 ⟨rfl, hB2⟩
                have HB2w := Lib.hid (HB1w.out.trans (hB2.mono HB1w.out.size))
                have HRX2 := Lib.hid (HRX1.out.below hB2)
                have HM2 := Lib.hid (HM1.out.below hB2)
                have HR2 := Lib.hid (HR1.out.below hB2)
                have x2 : w2.cell? ⟨wr.heap.size, 2, none⟩ = some (.string x.text) := HRX2.out.at 2 _ rfl
                cases had : addrB x.pub with
                | false =>
                  rw [had] at HDr
                  have HRF : Hid (rightN pr n = false) := HFa.out true (by rw [HC.out, HDr.out]; rfl)
                  clear hsn HC HDr HE3 HFa
                  go_wp2_with fail
                  go_returns
                  exact ⟨by rw [HRF.out]; rfl, HB2w.out⟩
                | true =>
                  rw [had] at HDr
                  go_wp2_with fail
                  (with_reducible refine (HBx.out _).mono ?_)
                  rintro e w3 ⟨rfl, hB3⟩
                  have HB3w := Lib.hid (HB2w.out.trans (hB3.mono HB2w.out.size))
                  have HRX3 := Lib.hid (HRX2.out.below hB3)
                  have HM3 := Lib.hid (HM2.out.below hB3)
                  have HR3 := Lib.hid (HR2.out.below hB3)
                  have x3 : w3.cell? ⟨wr.heap.size, 0, none⟩ = some (.string x.id) := HRX3.out.at 0 _ rfl
                  cases hbo : bodyB x.text with
                  | false =>
                    rw [hbo] at HDr
                    have HRF : Hid (rightN pr n = false) := HFa.out true (by rw [HC.out, HDr.out]; rfl)
                    clear hsn HC HDr HE3 HFa
                    go_wp2_with fail
                    go_returns
                    exact ⟨by rw [HRF.out]; rfl, HB3w.out⟩
                  | true =>
                    rw [hbo] at HDr
                    obtain ⟨w4, hup, hM4, hg4, hs4⟩ := HM3.out.put (P := Tryz.prog) Tryz.underlying75 Tryz.underlying9 x.id hsn
                    have HN : Hid (itemsR pr [] n.items = itemsR pr ((n.items.take (k + 1)).map PItem.id) (n.items.drop (k + 1))) := by show _ = _; rw [HC.out, HDr.out]; rfl
                    have HM4 : Hid (MapB w4 mb ((n.items.take (k + 1)).map PItem.id)) := by show MapB _ _ _; rw [HTK.out]; exact hM4
                    have hmw : w.heap.size ≤ mb := Nat.le_of_lt HML.out
                    have HB4w : Hid (Below w.heap.size w w4) := HB3w.out.grown hg4 HB3w.out.size (fun q e => by cases e; exact hmw)
                    have HR4 : Hid (RowI w4 w.heap.size 27 8 [.string f0, .bool f1, .int .u8 f2, .int .i64 f3, .slice aA n.affs.length cA, .slice aS n.subs.length cS, .slice (some ⟨g, off, none⟩) n.items.length cI, .string f7]) := HR3.out.kept (hg4.block _ HR3.out.lt (fun e => Nat.ne_of_lt HML.out (Option.some.inj e)))
                    clear hsn HC HDr HE3 HFa hM4 hg4 hs4 hmw
                    go_wp2_with fail
                    go_roundw
                    case rel => exact ⟨k + 1, by omega, by go_num, HN, HM4, HB4w, HR4⟩
                    case measure => simp [intOf]; omega
          · have hkl : k = n.items.length := by omega
            subst hkl
            have HE4 : Hid (rightN pr n = (ow && !n.subs.any depthBad)) := by
              show _ = _
              rw [HE3.out, HC.out, List.drop_length]
              rfl
            have HCo1 := Lib.hid (HCo.out wr hBr.out)
            have b5 : wr.cell? ⟨w.heap.size, 5, none⟩ = some (.slice aS n.subs.length cS) := hRr.out.at 5 _ rfl
            clear HC HE3 HCo HI
            generalize n.subs.any depthBad = db at *
            cases ow with
            | false =>
              go_wp2_with fail
              go_returns
              exact ⟨by rw [HE4.out]; rfl, hBr.out⟩
            | true =>
              go_wp2_with fail
              (with_reducible refine HCo1.out.mono ?_)
              rintro e w1 ⟨rfl, hB1⟩
              go_wp2_with fail
              go_returns
              exact ⟨by rw [HE4.out]; simp, hBr.out.trans (hB1.mono hBr.out.size)⟩
end Go.Proofs.YtpjaopcgoaannaaGreatDoor
