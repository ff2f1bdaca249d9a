/- xml's begin, as the plain function tells it. -/
import Derived.Test.YtppgjkjdddanbaaDoorG5
namespace Go.Proofs.YtppgjkjdddanbaaDoor
open Go.RowKit
open Hb

def EndsB (base bt A C : Nat) (ts : List Tok) (vw : Value) (w : World) (R : Except Nat (PS × List Tok)) (o : Ending) (w' : World) : Prop := match R with
  | .error k => o = panic1 k ∧ Below w.heap.size w w'
  | .ok (p', l) => o = .returned (.tuple #[]) ∧ ∃ vo' vout' cells', Inv w' base bt A C p' (ts ++ l) vw vo' vout' cells' ∧ Fr A base bt w w'
theorem EndsB.err {base bt A C : Nat} {ts : List Tok} {vw : Value} {w w' : World} {R : Except Nat (PS × List Tok)} {k : Nat} (hR : R = .error k) (hb : Below w.heap.size w w') : EndsB base bt A C ts vw w R (panic1 k) w' := by
  rw [hR]
  exact ⟨rfl, hb⟩
theorem EndsB.good {base bt A C : Nat} {ts : List Tok} {vw vo' vout' : Value} {cells' : List Value} {w w' : World} {R : Except Nat (PS × List Tok)} {p' : PS} {l : List Tok} (hR : R = .ok (p', l)) (h : Inv w' base bt A C p' (ts ++ l) vw vo' vout' cells') (hf : Fr A base bt w w') : EndsB base bt A C ts vw w R (.returned (.tuple #[])) w' := by
  rw [hR]
  exact ⟨rfl, _, _, _, h, hf⟩

theorem infoAttr : (Tryd.prog.info? 53).map (fun i => (i.zero, i.size, i.bytes)) = some (some (.agg #[.string ⟨#[]⟩, .string ⟨#[]⟩]), 2, 32) := by kernel_rfl

def attrCellsV (l : List (ByteArray × ByteArray)) : List Value := l.flatMap fun p => [.string p.1, .string p.2]
theorem attrCellsV_add (l : List (ByteArray × ByteArray)) (a : ByteArray × ByteArray) : attrCellsV l ++ [.string a.1, .string a.2] = attrCellsV (l ++ [a]) := by unfold attrCellsV; simp

theorem appOne {wr w2 : World} {base n : Nat} {v : Value} {xs : List Value} {e : TypeId} (hR : wr.ownsRow base e 1 v n xs) (hB : Below wr.heap.size wr w2) (a : Value) (e' : TypeId) :
    (w2.alloc (.cells #[a] e')).ownsRow base e 1 v n xs ∧ (∀ j u, [a][j]? = some u → (w2.alloc (.cells #[a] e')).cell? ((⟨w2.heap.size, 0, none⟩ : Addr).add j) = some u) ∧ Below wr.heap.size wr (w2.alloc (.cells #[a] e')) := by
  have h3 := hB.alloc hB.size (.cells #[a] e')
  refine ⟨row_below hR h3, ?_, h3⟩
  intro j u hj
  have hbx : Box (w2.alloc (.cells #[a] e')) w2.heap.size e' #[a] := (MapKept.heap_alloc w2 _).1
  have ha : (⟨w2.heap.size, 0, none⟩ : Addr).add j = ⟨w2.heap.size, 0 + j, none⟩ := by unfold Addr.add; split <;> simp_all
  rw [ha, hbx.cell, Nat.zero_add]
  simpa using hj

theorem appAttr {wr w2 : World} {base n B : Nat} {v : Value} {xs : List Value} (hR : wr.ownsRow base 53 2 v n xs) (hB : Below wr.heap.size wr w2) (hge : wr.heap.size ≤ B) (a : ByteArray × ByteArray) :
    (((w2.setCell ⟨B, 0, none⟩ (.string a.1)).setCell ⟨B, 1, none⟩ (.string a.2)).alloc (.cells #[.string a.1, .string a.2] 53)).ownsRow base 53 2 v n xs ∧
    (∀ j u, [Value.string a.1, .string a.2][j]? = some u → (((w2.setCell ⟨B, 0, none⟩ (.string a.1)).setCell ⟨B, 1, none⟩ (.string a.2)).alloc (.cells #[.string a.1, .string a.2] 53)).cell? ((⟨w2.heap.size, 0, none⟩ : Addr).add j) = some u) ∧
    Below wr.heap.size wr (((w2.setCell ⟨B, 0, none⟩ (.string a.1)).setCell ⟨B, 1, none⟩ (.string a.2)).alloc (.cells #[.string a.1, .string a.2] 53)) := by
  have h2 : Below wr.heap.size wr ((w2.setCell ⟨B, 0, none⟩ (.string a.1)).setCell ⟨B, 1, none⟩ (.string a.2)) := (hB.setCell hge _).setCell hge _
  have h3 := h2.alloc h2.size (.cells #[.string a.1, .string a.2] 53)
  have hsz : ((w2.setCell ⟨B, 0, none⟩ (.string a.1)).setCell ⟨B, 1, none⟩ (.string a.2)).heap.size = w2.heap.size := by simp [World.setCell]
  refine ⟨row_below hR h3, ?_, h3⟩
  intro j u hj
  generalize (w2.setCell ⟨B, 0, none⟩ (.string a.1)).setCell ⟨B, 1, none⟩ (.string a.2) = W at hsz ⊢
  have hbx : Box (W.alloc (.cells #[.string a.1, .string a.2] 53)) W.heap.size 53 #[.string a.1, .string a.2] := (MapKept.heap_alloc W _).1
  have ha : (⟨w2.heap.size, 0, none⟩ : Addr).add j = ⟨w2.heap.size, 0 + j, none⟩ := by unfold Addr.add; split <;> simp_all
  rw [ha, ← hsz, hbx.cell, Nat.zero_add]
  simpa using hj

theorem flat_take : ∀ (l : List (ByteArray × ByteArray)) (m : Nat), (attrCellsV l).take (m * 2) = attrCellsV (l.take m)
  | [], m => by simp [attrCellsV]
  | a :: l, 0 => by simp [attrCellsV]
  | a :: l, m + 1 => by
    have := flat_take l m
    rw [Nat.succ_mul]
    show Value.string a.1 :: Value.string a.2 :: (attrCellsV l).take (m * 2) = _
    rw [this]
    rfl
theorem attrRow_take {w : World} {g cap : Nat} {l : List (ByteArray × ByteArray)} (h : AttrRow w (.slice (some ⟨g, 0, none⟩) l.length cap) l) (m : Nat) (hm : m ≤ l.length) : AttrRow w (.slice (some ⟨g, 0, none⟩) (l.take m).length cap) (l.take m) := by
  have hlen : (l.take m).length = m := by rw [List.length_take]; omega
  rw [hlen]
  unfold AttrRow at *
  rw [hlen]
  rcases h.2 with ⟨h0, _⟩ | ⟨g', cap', cur, e1, e2, e3, e4, e5, e6, e7⟩
  · cases h0
  · cases e1
    have hft := flat_take l m
    unfold attrCellsV at hft
    refine ⟨?_, .inr ⟨g, cap, cur, rfl, e2, e3, by omega, e5, e6, ?_⟩⟩
    · have := congrArg List.length hft
      rw [← this, List.length_take, h.1]
      omega
    · rw [← hft, ← e7, List.take_take]
      congr 1
      omega

/-- the loop's test for twins: the variable's box, what is asked. -/
theorem conAt (g cap : Nat) (l : List (ByteArray × ByteArray)) (m : Nat) (hm : m < l.length) (W : World) (hl : AttrRow W (.slice (some ⟨g, 0, none⟩) l.length cap) l) (hn : l.length ≤ 100000000) :
    Calls Tryd.prog 52 #[.slice (some ⟨g, 0, none⟩) m cap, .func (.func 53) #[] #[pt W.heap.size]] (W.alloc (.cells #[.string l[m].1, .string l[m].2] 53)) fun e w' => e = .returned (.bool (hasName (l.take m) l[m].1)) ∧ Below W.heap.size W w' := by
  have h0 : Box (W.alloc (.cells #[.string l[m].1, .string l[m].2] 53)) W.heap.size 53 #[.string l[m].1, .string l[m].2] := (MapKept.heap_alloc W _).1
  have hb := (Below.refl W.heap.size W).alloc (Nat.le_refl _) (.cells #[.string l[m].1, .string l[m].2] 53)
  have hlen : (l.take m).length = m := by rw [List.length_take]; omega
  have hr := attrRow_take hl m (by omega)
  have hc := conF_any g cap (l.take m) l[m].1 W.heap.size (.string l[m].2) _ (row_below hr hb) h0 (by omega)
  rw [hlen] at hc
  exact hc.mono (fun _ _ h => ⟨h.1, hb.trans (h.2.mono hb.size)⟩)

set_option maxRecDepth 100000 in
set_option maxHeartbeats 8000000 in
theorem begin_any (base bt A C : Nat) (p : PS) (ts : List Tok) (vw vo vout : Value) (cells : List Value) (s : ByteArray) (w : World) (h : Inv w base bt A C p ts vw vo vout cells) (hs : s.size ≤ 4096) (hb : bt ≤ w.heap.size) (hn : ts.length ≤ 1000000000) :
    Calls Tryd.prog 37 #[pt A, .string s, tellV C] w (EndsB base bt A C ts vw w (beginP p s)) := by
  have HCS := Lib.hid (fun W => cutSuf_any s ⟨#[47]⟩ W (by omega))
  unfold beginP
  dsimp only
  have hi : (cutSuf s ⟨#[47]⟩).1.size ≤ s.size := by
    unfold cutSuf
    split
    · exact extract_le _ _ _
    · exact Nat.le_refl _
  generalize (cutSuf s ⟨#[47]⟩).1 = i at HCS hi ⊢
  generalize (cutSuf s ⟨#[47]⟩).2 = em at HCS ⊢
  have hN := fun W => xname_any i W (by omega)
  unfold nameTold at hN
  have hr0 := extract_le i (nameLen i.data.toList) i.size
  generalize i.extract (nameLen i.data.toList) i.size = r0 at hN hr0 ⊢
  generalize i.extract 0 (nameLen i.data.toList) = x at hN ⊢
  have HI := Lib.hid h
  clear h
  cases hnm : nameOk i with
  | false =>
    rw [hnm] at hN
    rw [if_neg (by decide)]
    have HN := Lib.hid hN
    clear hN
    unfold tellV
    go_enter Tryd.func37, Tryd.ntmps37
    go_wp2_with fail
    go_at_call 50
    with_reducible refine (HCS.out _).mono ?_
    rintro e w1 ⟨rfl, hw⟩
    obtain rfl := hw.symm
    go_wp2_with fail
    go_at_call 36
    with_reducible refine (HN.out _).mono ?_
    rintro e w1 ⟨rfl, nq, rfl⟩
    go_wp2_with fail
    exact ⟨rfl, EndsB.err rfl (bdrewN (Below.refl _ w) nq)⟩
  | true =>
    rw [hnm, if_pos rfl] at hN
    rw [if_pos rfl]
    have HN := Lib.hid hN
    clear hN
    generalize hR : beginO p x em (attrsR r0) = R
    have HRR := Lib.hid hR.symm
    clear hR
    unfold tellV
    go_enter Tryd.func37, Tryd.ntmps37
    go_wp2_with fail
    go_at_call 50
    with_reducible refine (HCS.out _).mono ?_
    rintro e w1 ⟨rfl, hw⟩
    obtain rfl := hw.symm
    go_wp2_with fail
    go_at_call 36
    with_reducible refine (HN.out _).mono ?_
    rintro e w1 ⟨rfl, nq, rfl⟩
    go_wp2_with fail
    go_loopw [8, 9] (fun rv av W => ∃ (r : ByteArray) (l : List (ByteArray × ByteArray)), rv = .string r ∧ Hid (r.size + l.length ≤ r0.size) ∧ Hid (AtAttr r0 l r) ∧ Hid (W.ownsRow w.heap.size 53 2 av l.length (attrCellsV l)) ∧ Hid (Below w.heap.size w W)) (fun rv _ _ => sizeOf rv)
    case atStart => exact ⟨r0, [], rfl, by show _ ≤ _; simp, AtAttr.start r0, World.ownsRow_nil _ _ _ _, bdrewN (Below.refl _ w) nq⟩
    case round =>
      obtain ⟨r, l, rfl, HS, HA, HR, HB⟩ := hrel
      have HL := Lib.hid (fun W => lead_any r W (by have := HS.out; omega))
      have hlr : lead r.data.toList ≤ r.size := by rw [Lib.size_eq]; exact lead_le _
      have e1 := sl_from r (lead r.data.toList) hlr
      have hA := HA.out
      have hAst := fun (a : ByteArray × ByteArray) (r' : ByteArray) => AtAttr.step (r' := r') (a := a) hA
      have hAend := hA.last
      have hAgap := fun h h0 => hA.none (attrsR_gap (r := r) h h0)
      have hAbad := fun h h0 ha => hA.none (attrsR_bad (r := r) h h0 ha)
      have hless := fun (y : (ByteArray × ByteArray) × ByteArray) => attrP_less (r := r) (y := y)
      have hAT := fun W => attr_any (r.extract (lead r.data.toList) r.size) W (by have := extract_le r (lead r.data.toList) r.size; have := HS.out; omega)
      generalize r.extract (lead r.data.toList) r.size = r1 at e1 hAst hAbad hAT hless
      generalize lead r.data.toList = k at HL hlr e1 hAst hAend hAgap hAbad hless
      by_cases hk : k = r.size
      · have hZ := hAend hk
        have hRl := HRR.out
        rw [hZ] at hRl
        have HZ := Lib.hid hRl
        clear hAst hAend hAgap hAbad hless hAT hA hRl hZ e1
        have ck : ((k : Int) == (r.size : Int)) = true := by rw [beq_iff_eq]; omega
        go_wp2_with fail
        go_at_call 33
        with_reducible refine (HL.out _).mono ?_
        rintro e w1 ⟨rfl, hB1⟩
        have HB1 := Lib.hid (HB.out.trans (hB1.mono HB.out.size))
        have HR1 := Lib.hid (row_below HR.out hB1)
        have HJ := Lib.hid (HI.out.below HB1.out)
        have HL2 := Lib.hid (show l.length ≤ 10000 by have := HS.out; omega)
        clear hB1 HB HR HL HS
        obtain ⟨sa, sc, rfl⟩ := row_slice HR1.out
        obtain ⟨go, co, hvo⟩ := row_slice HI.out.opn
        subst hvo
        have x2 := HJ.out.box.cell 2
        have x3 := HJ.out.box.cell 3
        change _ = some (Value.slice go p.opn.length co) at x2
        change _ = some (Value.bool p.rooted) at x3
        have HD := Lib.hid (show p.opn.length = 0 ↔ p.opn = [] from List.length_eq_zero_iff)
        generalize hdd : p.opn.length = d at x2
        generalize hro : p.rooted = ro at x3
        by_cases hd : d = 0
        · have cd : decide (0 < d) = false := by simp; omega
          cases ro with
          | true =>
            have HE := Lib.hid (HZ.out.trans (beginO_root ⟨HD.out.1 (hdd.trans hd), hro⟩))
            go_wp2_with fail
            go_at_call 27
            with_reducible refine (must_no 6 _).mono ?_
            rintro e w1 ⟨rfl, hw⟩
            obtain rfl := hw.symm
            go_wp2_with fail
            exact ⟨rfl, EndsB.err HE.out HB1.out⟩
          | false =>
            have HNR := Lib.hid (show ¬ (p.opn = [] ∧ p.rooted = true) from fun hh => by rw [hro] at hh; cases hh.2)
            have HDD := Lib.hid hdd
            clear hdd hro hd
            go_wp2_with fail
            go_at_call 27
            with_reducible refine (must_ok _ _).mono ?_
            rintro e w1 ⟨rfl, hw⟩
            obtain rfl := hw.symm
            by_cases h8 : l.length ≤ 8
            · have c8 : decide ((l.length : Int) ≤ 8) = true := by simp; omega
              go_wp2_with fail
              go_at_call 27
              with_reducible refine (must_ok _ _).mono ?_
              rintro e w1 ⟨rfl, hw⟩
              obtain rfl := hw.symm
              go_wp2_with fail
              go_loopw [64] (fun iv W => ∃ m : Nat, m ≤ l.length ∧ iv = .int .i64 m ∧ Hid (twice [] l = twice (l.take m) (l.drop m)) ∧ Hid (Below w1.heap.size w1 W)) (fun iv _ => l.length - (intOf iv).toNat)
              case atStart => exact ⟨0, Nat.zero_le _, rfl, by show _ = _; simp, Below.refl _ w1⟩
              case round =>
                obtain ⟨m, hm, rfl, HT, HBW⟩ := hrel
                by_cases hlt : m < l.length
                · have cm : decide ((m : Int) < (l.length : Int)) = true := by simp; omega
                  have hts := twice_step l m hlt
                  have hrow0 := HR1.out
                  obtain ⟨g, hsa⟩ : ∃ g, sa = some ⟨g, 0, none⟩ := by
                    rcases hrow0.2 with ⟨e1, e2⟩ | ⟨g, cap, cur, e1, _⟩
                    · omega
                    · injection e1 with e1 e2 e3
                      exact ⟨g, e1⟩
                  subst hsa
                  have hrow : AttrRow wr (.slice (some ⟨g, 0, none⟩) l.length sc) l := own_mono (row_below hrow0 HBW.out) (Nat.zero_le _)
                  have hcap : l.length ≤ sc := by
                    rcases hrow0.2 with ⟨e1, _⟩ | ⟨_, cap, cur, e1, _, _, e4, _⟩
                    · cases e1
                    · cases e1; exact e4
                  have b1 : (0 : Int) ≤ (m : Int) := by omega
                  have b2 : (m : Int) ≤ (sc : Int) := by omega
                  have hcs := attrCells hrow m hlt
                  have y0 := hcs.1
                  have y1 := hcs.2
                  have hCF := conAt g sc l m hlt wr hrow (by omega)
                  cases hdu : hasName (l.take m) l[m].1 with
                  | true =>
                    rw [hdu] at hCF hts
                    have HCF := Lib.hid hCF
                    have HTW := Lib.hid (show twice [] l = true by rw [HT.out, hts]; rfl)
                    have HE := Lib.hid (HZ.out.trans (beginO_twice HNR.out (by omega) HTW.out))
                    clear hCF hts hdu hcs hrow hrow0
                    go_wp2_with fail
                    with_reducible refine (HCF.out).mono ?_
                    rintro e w3 ⟨rfl, hB3⟩
                    go_wp2_with fail
                    go_at_call 27
                    with_reducible refine (must_no 6 _).mono ?_
                    rintro e w1 ⟨rfl, hw⟩
                    obtain rfl := hw.symm
                    go_wp2_with fail
                    exact ⟨rfl, EndsB.err HE.out ((HB1.out.trans (HBW.out.mono HB1.out.size)).trans (hB3.mono (by have := HB1.out.size; have := HBW.out.size; omega)))⟩
                  | false =>
                    rw [hdu] at hCF hts
                    have HCF := Lib.hid hCF
                    have HTW := Lib.hid (show twice [] l = twice (l.take (m + 1)) (l.drop (m + 1)) by rw [HT.out, hts]; rfl)
                    clear hCF hts hdu hcs hrow hrow0
                    go_wp2_with fail
                    with_reducible refine (HCF.out).mono ?_
                    rintro e w3 ⟨rfl, hB3⟩
                    go_wp2_with fail
                    go_at_call 27
                    with_reducible refine (must_ok _ _).mono ?_
                    rintro e w1 ⟨rfl, hw⟩
                    obtain rfl := hw.symm
                    go_wp2_with fail
                    go_roundw
                    case rel => exact ⟨m + 1, by omega, by go_num, HTW.out, HBW.out.trans (hB3.mono HBW.out.size)⟩
                    case measure => simp [intOf]; omega
                · have cm : decide ((m : Int) < (l.length : Int)) = false := by simp; omega
                  have hml : m = l.length := by omega
                  subst hml
                  have HTW := Lib.hid (show twice [] l = false by rw [HT.out, List.drop_length]; rfl)
                  have HB9 := Lib.hid (HB1.out.trans (HBW.out.mono HB1.out.size))
                  have HJW := Lib.hid (HJ.out.below HBW.out)
                  have HRW := Lib.hid (row_below HR1.out HBW.out)
                  have z2 : wr.cell? ⟨A, 2, none⟩ = some (Value.slice go p.opn.length co) := HJW.out.box.cell 2
                  rw [HDD.out] at z2
                  by_cases h9 : d < 8
                  · have c9 : decide ((d : Int) < 8) = true := by simp; omega
                    have z3 : wr.cell? ⟨A, 3, none⟩ = some (Value.bool p.rooted) := HJW.out.box.cell 3
                    have f3 := HJW.out.box.f 3
                    have hI5 := HJW.out.setFlag (p' := { p with rooted := true }) 3 (.bool true) rfl rfl rfl
                    have hsz : (wr.setCell ⟨A, 3, none⟩ (.bool true)).heap.size = wr.heap.size := by simp [World.setCell]
                    have HAR : AttrRow (wr.setCell ⟨A, 3, none⟩ (.bool true)) (.slice sa l.length sc) l := own_only (own_mono HRW.out (Nat.zero_le _)) (Only.set wr A 3 (.bool true)) (fun g hg hs => by
                      have ht := own_tag HRW.out g hg
                      subst hs
                      exact absurd (ht.ne HJW.out.box.tag) (by decide))
                    have hT1 := tellI hI5 1 1 rfl x ⟨#[]⟩ l _ HAR (by rw [hsz]; exact Nat.le_trans hb HB9.out.size) (by omega)
                    rw [hsz] at hT1
                    have HT1 := Lib.hid hT1
                    have HF5 := Lib.hid ((Fr.below HB9.out : Fr A base bt w wr).trans (Fr.setA A base bt 3 (.bool true) wr))
                    clear hT1 hI5 HAR
                    cases em with
                    | true =>
                      have HE := Lib.hid (HZ.out.trans (beginO_one HNR.out (by omega) HTW.out (by rw [HDD.out]; omega)))
                      go_wp2_with fail
                      go_at_call 27
                      with_reducible refine (must_ok _ _).mono ?_
                      rintro e w1 ⟨rfl, hw⟩
                      obtain rfl := hw.symm
                      go_wp2_with fail
                      with_reducible refine (HT1.out).mono ?_
                      rintro e w6 ⟨rfl, hQ⟩
                      have HQ := Lib.hid hQ
                      have hT2 : ∃ v1 cells', Inv w6 base bt A C { p with rooted := true } (ts ++ [⟨1, x, l, ⟨#[]⟩⟩]) vw (.slice go p.opn.length co) v1 cells' ∧ Fr A base bt (wr.setCell ⟨A, 3, none⟩ (.bool true)) w6 ∧
                        Calls Tryd.prog 21 #[.slice (some ⟨w6.heap.size, 0, none⟩) 1 1, pt C] (w6.alloc (.cells #[.int .u8 2, .string x, .slice none 0 0, .string ⟨#[]⟩] 34)) fun o w' => o = .returned (.tuple #[]) ∧
                          ∃ v2 cells2, Inv w' base bt A C { p with rooted := true } ((ts ++ [⟨1, x, l, ⟨#[]⟩⟩]) ++ [⟨2, x, [], ⟨#[]⟩⟩]) vw (.slice go p.opn.length co) v2 cells2 ∧ Fr A base bt w6 w' := by
                        obtain ⟨v1, cells', hI, hF⟩ := HQ.out
                        exact ⟨v1, cells', hI, hF, tellI hI 2 2 rfl x ⟨#[]⟩ [] (.slice none 0 0) (World.ownsRow_nil _ _ _ _) (Nat.le_trans hb (HF5.out.trans hF).size) (by rw [List.length_append]; show ts.length + 1 ≤ _; omega)⟩
                      obtain ⟨v1, cells1, hI1, hF1, hT3⟩ := hT2
                      have HT3 := Lib.hid hT3
                      have HF6 := Lib.hid (HF5.out.trans hF1)
                      clear hT3 hF1 hI1 hQ
                      go_wp2_with fail
                      with_reducible refine (HT3.out).mono ?_
                      rintro e w7 ⟨rfl, v2, cells2, hI7, hF7⟩
                      have HI7 := Lib.hid hI7
                      have HF7 := Lib.hid (HF6.out.trans hF7)
                      clear hI7 hF7
                      go_wp2_with fail
                      go_returns
                      have hI := HI7.out
                      rw [List.append_assoc] at hI
                      exact EndsB.good HE.out hI HF7.out
                    | false =>
                      have HE := Lib.hid (HZ.out.trans (beginO_two HNR.out (by omega) HTW.out (by rw [HDD.out]; omega)))
                      go_wp2_with fail
                      go_at_call 27
                      with_reducible refine (must_ok _ _).mono ?_
                      rintro e w1 ⟨rfl, hw⟩
                      obtain rfl := hw.symm
                      go_wp2_with fail
                      with_reducible refine (HT1.out).mono ?_
                      rintro e w6 ⟨rfl, v1, cells1, hI6, hF6⟩
                      have HI6 := Lib.hid hI6
                      have HF6 := Lib.hid (HF5.out.trans hF6)
                      have q2 : w6.cell? ⟨A, 2, none⟩ = some (Value.slice go p.opn.length co) := hI6.box.cell 2
                      have HCL := Lib.hid (cloneStr_any 0 p.opn.length _ _ w6 hI6.opn (by simp [Value.oneCell']) (by rw [HDD.out]; omega))
                      rw [HDD.out] at q2
                      rw [HDD.out] at HCL
                      clear hI6 hF6
                      go_wp2_with fail
                      with_reducible refine (HCL.out).mono ?_
                      rintro e w7 ⟨cv, rfl, hcv, hB7⟩
                      have HAP := Lib.hid (appOne hcv (Below.refl _ w7) (.string x) 9)
                      have HB7 := Lib.hid hB7
                      obtain ⟨j0, hii, hz0, hz1, hz2⟩ := info_parts infoStr
                      have HII := Lib.hid (And.intro hii (And.intro hz0 (And.intro hz1 hz2)))
                      obtain ⟨sa7, sc7, rfl⟩ := row_slice hcv
                      have g2 : w7.frozen? ⟨A, 2, none⟩ = false := (HI6.out.below hB7).box.f 2
                      have g3 : w7.cell? ⟨A, 2, none⟩ = some (Value.slice go p.opn.length co) := (HI6.out.below hB7).box.cell 2
                      rw [HDD.out] at g3
                      clear hcv hB7 hii hz0 hz1 hz2
                      go_wp2_with (at_builtin; refine wpList_append_own _ rfl (.tmp 104) (.tmp 106) 30 rfl w6.heap.size 9 j0 _ 1 16 Tryd.underlying30 HII.out.1 HII.out.2.1 HII.out.2.2.1 HII.out.2.2.2 rfl (by omega) (.slice sa7 d sc7) d (p.opn.map Value.string) rfl HAP.out.1 ⟨w7.heap.size, 0, none⟩ 1 1 [.string x] rfl rfl HAP.out.2.1 (by simp [Value.oneCell']) (by simp only [maxLen]; omega) (by omega) (Nat.le_trans HB7.out.size HAP.out.2.2.size) ?_; intro v8 w8 hown hg _; obtain ⟨sa8, sc8, rfl⟩ := row_slice hown; have HG := Lib.hid (HB7.out.trans ((HAP.out.2.2.mono (Nat.le_refl _)).mono HB7.out.size)); have HG8 := Lib.hid (HG.out.grown hg HG.out.size (fun k hk => ownBlock_base HAP.out.1 k hk)); have HI8 := Lib.hid (HI6.out.below HG8.out); have r2 := HI8.out.box.f 2; have r3 : w8.cell? ⟨A, 2, none⟩ = some (Value.slice go p.opn.length co) := HI8.out.box.cell 2)
                      go_returns
                      have hrow : w8.ownsRow 0 9 1 (.slice sa8 (d + 1) sc8) (p.opn ++ [x]).length ((p.opn ++ [x]).map Value.string) := by
                        rw [List.length_append, HDD.out, List.map_append]
                        exact own_mono hown (Nat.zero_le _)
                      exact EndsB.good HE.out (HI8.out.setOpn _ (p.opn ++ [x]) hrow) ((HF6.out.trans (Fr.below HG8.out)).trans (Fr.setA A base bt 2 _ w8))
                  · have c9 : decide ((d : Int) < 8) = false := by simp; omega
                    have HE := Lib.hid (HZ.out.trans (beginO_deep HNR.out (by omega) HTW.out (by rw [HDD.out]; omega)))
                    go_wp2_with fail
                    go_at_call 27
                    with_reducible refine (must_no 5 _).mono ?_
                    rintro e w1 ⟨rfl, hw⟩
                    obtain rfl := hw.symm
                    go_wp2_with fail
                    exact ⟨rfl, EndsB.err HE.out HB9.out⟩
            · have c8 : decide ((l.length : Int) ≤ 8) = false := by simp; omega
              have HE := Lib.hid (HZ.out.trans (beginO_many HNR.out (by omega)))
              go_wp2_with fail
              go_at_call 27
              with_reducible refine (must_no 5 _).mono ?_
              rintro e w1 ⟨rfl, hw⟩
              obtain rfl := hw.symm
              go_wp2_with fail
              exact ⟨rfl, EndsB.err HE.out HB1.out⟩
        · have cd : decide (0 < d) = true := by simp; omega
          have HNR := Lib.hid (show ¬ (p.opn = [] ∧ p.rooted = true) from fun hh => hd (hdd.symm.trans (HD.out.2 hh.1)))
          have HDD := Lib.hid hdd
          clear hdd hro hd
          go_wp2_with fail
          go_at_call 27
          with_reducible refine (must_ok _ _).mono ?_
          rintro e w1 ⟨rfl, hw⟩
          obtain rfl := hw.symm
          by_cases h8 : l.length ≤ 8
          · have c8 : decide ((l.length : Int) ≤ 8) = true := by simp; omega
            go_wp2_with fail
            go_at_call 27
            with_reducible refine (must_ok _ _).mono ?_
            rintro e w1 ⟨rfl, hw⟩
            obtain rfl := hw.symm
            go_wp2_with fail
            go_loopw [64] (fun iv W => ∃ m : Nat, m ≤ l.length ∧ iv = .int .i64 m ∧ Hid (twice [] l = twice (l.take m) (l.drop m)) ∧ Hid (Below w1.heap.size w1 W)) (fun iv _ => l.length - (intOf iv).toNat)
            case atStart => exact ⟨0, Nat.zero_le _, rfl, by show _ = _; simp, Below.refl _ w1⟩
            case round =>
              obtain ⟨m, hm, rfl, HT, HBW⟩ := hrel
              by_cases hlt : m < l.length
              · have cm : decide ((m : Int) < (l.length : Int)) = true := by simp; omega
                have hts := twice_step l m hlt
                have hrow0 := HR1.out
                obtain ⟨g, hsa⟩ : ∃ g, sa = some ⟨g, 0, none⟩ := by
                  rcases hrow0.2 with ⟨e1, e2⟩ | ⟨g, cap, cur, e1, _⟩
                  · omega
                  · injection e1 with e1 e2 e3
                    exact ⟨g, e1⟩
                subst hsa
                have hrow : AttrRow wr (.slice (some ⟨g, 0, none⟩) l.length sc) l := own_mono (row_below hrow0 HBW.out) (Nat.zero_le _)
                have hcap : l.length ≤ sc := by
                  rcases hrow0.2 with ⟨e1, _⟩ | ⟨_, cap, cur, e1, _, _, e4, _⟩
                  · cases e1
                  · cases e1; exact e4
                have b1 : (0 : Int) ≤ (m : Int) := by omega
                have b2 : (m : Int) ≤ (sc : Int) := by omega
                have hcs := attrCells hrow m hlt
                have y0 := hcs.1
                have y1 := hcs.2
                have hCF := conAt g sc l m hlt wr hrow (by omega)
                cases hdu : hasName (l.take m) l[m].1 with
                | true =>
                  rw [hdu] at hCF hts
                  have HCF := Lib.hid hCF
                  have HTW := Lib.hid (show twice [] l = true by rw [HT.out, hts]; rfl)
                  have HE := Lib.hid (HZ.out.trans (beginO_twice HNR.out (by omega) HTW.out))
                  clear hCF hts hdu hcs hrow hrow0
                  go_wp2_with fail
                  with_reducible refine (HCF.out).mono ?_
                  rintro e w3 ⟨rfl, hB3⟩
                  go_wp2_with fail
                  go_at_call 27
                  with_reducible refine (must_no 6 _).mono ?_
                  rintro e w1 ⟨rfl, hw⟩
                  obtain rfl := hw.symm
                  go_wp2_with fail
                  exact ⟨rfl, EndsB.err HE.out ((HB1.out.trans (HBW.out.mono HB1.out.size)).trans (hB3.mono (by have := HB1.out.size; have := HBW.out.size; omega)))⟩
                | false =>
                  rw [hdu] at hCF hts
                  have HCF := Lib.hid hCF
                  have HTW := Lib.hid (show twice [] l = twice (l.take (m + 1)) (l.drop (m + 1)) by rw [HT.out, hts]; rfl)
                  clear hCF hts hdu hcs hrow hrow0
                  go_wp2_with fail
                  with_reducible refine (HCF.out).mono ?_
                  rintro e w3 ⟨rfl, hB3⟩
                  go_wp2_with fail
                  go_at_call 27
                  with_reducible refine (must_ok _ _).mono ?_
                  rintro e w1 ⟨rfl, hw⟩
                  obtain rfl := hw.symm
                  go_wp2_with fail
                  go_roundw
                  case rel => exact ⟨m + 1, by omega, by go_num, HTW.out, HBW.out.trans (hB3.mono HBW.out.size)⟩
                  case measure => simp [intOf]; omega
              · have cm : decide ((m : Int) < (l.length : Int)) = false := by simp; omega
                have hml : m = l.length := by omega
                subst hml
                have HTW := Lib.hid (show twice [] l = false by rw [HT.out, List.drop_length]; rfl)
                have HB9 := Lib.hid (HB1.out.trans (HBW.out.mono HB1.out.size))
                have HJW := Lib.hid (HJ.out.below HBW.out)
                have HRW := Lib.hid (row_below HR1.out HBW.out)
                have z2 : wr.cell? ⟨A, 2, none⟩ = some (Value.slice go p.opn.length co) := HJW.out.box.cell 2
                rw [HDD.out] at z2
                by_cases h9 : d < 8
                · have c9 : decide ((d : Int) < 8) = true := by simp; omega
                  have z3 : wr.cell? ⟨A, 3, none⟩ = some (Value.bool p.rooted) := HJW.out.box.cell 3
                  have f3 := HJW.out.box.f 3
                  have hI5 := HJW.out.setFlag (p' := { p with rooted := true }) 3 (.bool true) rfl rfl rfl
                  have hsz : (wr.setCell ⟨A, 3, none⟩ (.bool true)).heap.size = wr.heap.size := by simp [World.setCell]
                  have HAR : AttrRow (wr.setCell ⟨A, 3, none⟩ (.bool true)) (.slice sa l.length sc) l := own_only (own_mono HRW.out (Nat.zero_le _)) (Only.set wr A 3 (.bool true)) (fun g hg hs => by
                    have ht := own_tag HRW.out g hg
                    subst hs
                    exact absurd (ht.ne HJW.out.box.tag) (by decide))
                  have hT1 := tellI hI5 1 1 rfl x ⟨#[]⟩ l _ HAR (by rw [hsz]; exact Nat.le_trans hb HB9.out.size) (by omega)
                  rw [hsz] at hT1
                  have HT1 := Lib.hid hT1
                  have HF5 := Lib.hid ((Fr.below HB9.out : Fr A base bt w wr).trans (Fr.setA A base bt 3 (.bool true) wr))
                  clear hT1 hI5 HAR
                  cases em with
                  | true =>
                    have HE := Lib.hid (HZ.out.trans (beginO_one HNR.out (by omega) HTW.out (by rw [HDD.out]; omega)))
                    go_wp2_with fail
                    go_at_call 27
                    with_reducible refine (must_ok _ _).mono ?_
                    rintro e w1 ⟨rfl, hw⟩
                    obtain rfl := hw.symm
                    go_wp2_with fail
                    with_reducible refine (HT1.out).mono ?_
                    rintro e w6 ⟨rfl, hQ⟩
                    have HQ := Lib.hid hQ
                    have hT2 : ∃ v1 cells', Inv w6 base bt A C { p with rooted := true } (ts ++ [⟨1, x, l, ⟨#[]⟩⟩]) vw (.slice go p.opn.length co) v1 cells' ∧ Fr A base bt (wr.setCell ⟨A, 3, none⟩ (.bool true)) w6 ∧
                      Calls Tryd.prog 21 #[.slice (some ⟨w6.heap.size, 0, none⟩) 1 1, pt C] (w6.alloc (.cells #[.int .u8 2, .string x, .slice none 0 0, .string ⟨#[]⟩] 34)) fun o w' => o = .returned (.tuple #[]) ∧
                        ∃ v2 cells2, Inv w' base bt A C { p with rooted := true } ((ts ++ [⟨1, x, l, ⟨#[]⟩⟩]) ++ [⟨2, x, [], ⟨#[]⟩⟩]) vw (.slice go p.opn.length co) v2 cells2 ∧ Fr A base bt w6 w' := by
                      obtain ⟨v1, cells', hI, hF⟩ := HQ.out
                      exact ⟨v1, cells', hI, hF, tellI hI 2 2 rfl x ⟨#[]⟩ [] (.slice none 0 0) (World.ownsRow_nil _ _ _ _) (Nat.le_trans hb (HF5.out.trans hF).size) (by rw [List.length_append]; show ts.length + 1 ≤ _; omega)⟩
                    obtain ⟨v1, cells1, hI1, hF1, hT3⟩ := hT2
                    have HT3 := Lib.hid hT3
                    have HF6 := Lib.hid (HF5.out.trans hF1)
                    clear hT3 hF1 hI1 hQ
                    go_wp2_with fail
                    with_reducible refine (HT3.out).mono ?_
                    rintro e w7 ⟨rfl, v2, cells2, hI7, hF7⟩
                    have HI7 := Lib.hid hI7
                    have HF7 := Lib.hid (HF6.out.trans hF7)
                    clear hI7 hF7
                    go_wp2_with fail
                    go_returns
                    have hI := HI7.out
                    rw [List.append_assoc] at hI
                    exact EndsB.good HE.out hI HF7.out
                  | false =>
                    have HE := Lib.hid (HZ.out.trans (beginO_two HNR.out (by omega) HTW.out (by rw [HDD.out]; omega)))
                    go_wp2_with fail
                    go_at_call 27
                    with_reducible refine (must_ok _ _).mono ?_
                    rintro e w1 ⟨rfl, hw⟩
                    obtain rfl := hw.symm
                    go_wp2_with fail
                    with_reducible refine (HT1.out).mono ?_
                    rintro e w6 ⟨rfl, v1, cells1, hI6, hF6⟩
                    have HI6 := Lib.hid hI6
                    have HF6 := Lib.hid (HF5.out.trans hF6)
                    have q2 : w6.cell? ⟨A, 2, none⟩ = some (Value.slice go p.opn.length co) := hI6.box.cell 2
                    have HCL := Lib.hid (cloneStr_any 0 p.opn.length _ _ w6 hI6.opn (by simp [Value.oneCell']) (by rw [HDD.out]; omega))
                    rw [HDD.out] at q2
                    rw [HDD.out] at HCL
                    clear hI6 hF6
                    go_wp2_with fail
                    with_reducible refine (HCL.out).mono ?_
                    rintro e w7 ⟨cv, rfl, hcv, hB7⟩
                    have HAP := Lib.hid (appOne hcv (Below.refl _ w7) (.string x) 9)
                    have HB7 := Lib.hid hB7
                    obtain ⟨j0, hii, hz0, hz1, hz2⟩ := info_parts infoStr
                    have HII := Lib.hid (And.intro hii (And.intro hz0 (And.intro hz1 hz2)))
                    obtain ⟨sa7, sc7, rfl⟩ := row_slice hcv
                    have g2 : w7.frozen? ⟨A, 2, none⟩ = false := (HI6.out.below hB7).box.f 2
                    have g3 : w7.cell? ⟨A, 2, none⟩ = some (Value.slice go p.opn.length co) := (HI6.out.below hB7).box.cell 2
                    rw [HDD.out] at g3
                    clear hcv hB7 hii hz0 hz1 hz2
                    go_wp2_with (at_builtin; refine wpList_append_own _ rfl (.tmp 104) (.tmp 106) 30 rfl w6.heap.size 9 j0 _ 1 16 Tryd.underlying30 HII.out.1 HII.out.2.1 HII.out.2.2.1 HII.out.2.2.2 rfl (by omega) (.slice sa7 d sc7) d (p.opn.map Value.string) rfl HAP.out.1 ⟨w7.heap.size, 0, none⟩ 1 1 [.string x] rfl rfl HAP.out.2.1 (by simp [Value.oneCell']) (by simp only [maxLen]; omega) (by omega) (Nat.le_trans HB7.out.size HAP.out.2.2.size) ?_; intro v8 w8 hown hg _; obtain ⟨sa8, sc8, rfl⟩ := row_slice hown; have HG := Lib.hid (HB7.out.trans ((HAP.out.2.2.mono (Nat.le_refl _)).mono HB7.out.size)); have HG8 := Lib.hid (HG.out.grown hg HG.out.size (fun k hk => ownBlock_base HAP.out.1 k hk)); have HI8 := Lib.hid (HI6.out.below HG8.out); have r2 := HI8.out.box.f 2; have r3 : w8.cell? ⟨A, 2, none⟩ = some (Value.slice go p.opn.length co) := HI8.out.box.cell 2)
                    go_returns
                    have hrow : w8.ownsRow 0 9 1 (.slice sa8 (d + 1) sc8) (p.opn ++ [x]).length ((p.opn ++ [x]).map Value.string) := by
                      rw [List.length_append, HDD.out, List.map_append]
                      exact own_mono hown (Nat.zero_le _)
                    exact EndsB.good HE.out (HI8.out.setOpn _ (p.opn ++ [x]) hrow) ((HF6.out.trans (Fr.below HG8.out)).trans (Fr.setA A base bt 2 _ w8))
                · have c9 : decide ((d : Int) < 8) = false := by simp; omega
                  have HE := Lib.hid (HZ.out.trans (beginO_deep HNR.out (by omega) HTW.out (by rw [HDD.out]; omega)))
                  go_wp2_with fail
                  go_at_call 27
                  with_reducible refine (must_no 5 _).mono ?_
                  rintro e w1 ⟨rfl, hw⟩
                  obtain rfl := hw.symm
                  go_wp2_with fail
                  exact ⟨rfl, EndsB.err HE.out HB9.out⟩
          · have c8 : decide ((l.length : Int) ≤ 8) = false := by simp; omega
            have HE := Lib.hid (HZ.out.trans (beginO_many HNR.out (by omega)))
            go_wp2_with fail
            go_at_call 27
            with_reducible refine (must_no 5 _).mono ?_
            rintro e w1 ⟨rfl, hw⟩
            obtain rfl := hw.symm
            go_wp2_with fail
            exact ⟨rfl, EndsB.err HE.out HB1.out⟩
      · by_cases hk0 : k = 0
        · have hZ := hAgap hk hk0
          have hRl := HRR.out
          rw [hZ] at hRl
          have HZ := Lib.hid hRl
          have ck : ((k : Int) == (r.size : Int)) = false := by rw [beq_eq_false_iff_ne]; omega
          have ck0 : decide (0 < k) = false := by simp; omega
          clear hAst hAend hAgap hAbad hless hAT hA e1 hRl hZ hk0
          go_wp2_with fail
          go_at_call 33
          with_reducible refine (HL.out _).mono ?_
          rintro e w1 ⟨rfl, hB1⟩
          go_wp2_with fail
          go_at_call 27
          with_reducible refine (must_no 6 _).mono ?_
          rintro e w1 ⟨rfl, hw⟩
          obtain rfl := hw.symm
          go_wp2_with fail
          exact ⟨rfl, EndsB.err HZ.out (HB.out.trans (hB1.mono HB.out.size))⟩
        · have ck : ((k : Int) == (r.size : Int)) = false := by rw [beq_eq_false_iff_ne]; omega
          have ck0 : decide (0 < k) = true := by simp; omega
          cases hat : attrP r1 with
          | none =>
            rw [hat] at hAT
            dsimp only at hAT
            have hZ := hAbad hk hk0 hat
            have hRl := HRR.out
            rw [hZ] at hRl
            have HZ := Lib.hid hRl
            have HAT := Lib.hid hAT
            clear hAst hAend hAgap hAbad hless hAT hA hRl hZ hk0
            go_wp2_with fail
            go_at_call 33
            with_reducible refine (HL.out _).mono ?_
            rintro e w1 ⟨rfl, hB1⟩
            go_wp2_with fail
            go_at_call 27
            with_reducible refine (must_ok _ _).mono ?_
            rintro e w1 ⟨rfl, hw⟩
            obtain rfl := hw.symm
            go_wp2_with fail
            go_at_call 51
            with_reducible refine (HAT.out _).mono ?_
            rintro e w2 ⟨rfl, hB2⟩
            unfold panic1
            go_wp2_with fail
            exact ⟨rfl, EndsB.err HZ.out (((HB.out.trans (hB1.mono HB.out.size)).alloc (by have := HB.out.size; have := hB1.size; omega) _).trans (hB2.mono (by have := HB.out.size; have := hB1.size; exact ((HB.out.trans (hB1.mono HB.out.size)).alloc (by omega) _).size)))⟩
          | some y =>
            obtain ⟨a, r'⟩ := y
            rw [hat] at hAT
            dsimp only at hAT
            have HST := Lib.hid (hAst a r' hk hk0 hat)
            have HLS := Lib.hid (hless _ hk0 hk hat)
            have HAT := Lib.hid hAT
            clear hAst hAend hAgap hAbad hless hAT hA hk0
            go_wp2_with fail
            go_at_call 33
            with_reducible refine (HL.out _).mono ?_
            rintro e w1 ⟨rfl, hB1⟩
            go_wp2_with fail
            go_at_call 27
            with_reducible refine (must_ok _ _).mono ?_
            rintro e w1 ⟨rfl, hw⟩
            obtain rfl := hw.symm
            go_wp2_with fail
            go_at_call 51
            with_reducible refine (HAT.out _).mono ?_
            rintro e w2 ⟨rfl, hB2⟩
            have hbx : Box w2 w1.heap.size 53 #[.string ⟨#[]⟩, .string ⟨#[]⟩] := (hB2.block w1.heap.size (by rw [World.size_alloc]; exact Nat.lt_succ_self _)).trans (MapKept.heap_alloc w1 _).1
            have x0 : w2.cell? ⟨w1.heap.size, 0, none⟩ = some (.string ⟨#[]⟩) := hbx.cell 0
            have x1 : w2.cell? ⟨w1.heap.size, 1, none⟩ = some (.string ⟨#[]⟩) := hbx.cell 1
            have f0 := hbx.f 0
            have f1 := hbx.f 1
            have y0 : _ = some (Value.string a.1) := ((hbx.set 0 (.string a.1)).set 1 (.string a.2)).cell 0
            have y1 : _ = some (Value.string a.2) := ((hbx.set 0 (.string a.1)).set 1 (.string a.2)).cell 1
            have hB21 : Below wr.heap.size wr w2 := (hB1.alloc hB1.size (.cells #[.string ⟨#[]⟩, .string ⟨#[]⟩] 53)).trans (hB2.mono (hB1.alloc hB1.size (.cells #[.string ⟨#[]⟩, .string ⟨#[]⟩] 53)).size)
            have HAP := Lib.hid (appAttr HR.out hB21 hB1.size a)
            have HN2 := Lib.hid (HB.out.size)
            have HLN := Lib.hid (show l.length ≤ 10000 by have := HS.out; omega)
            obtain ⟨i0, hii, hz0, hz1, hz2⟩ := info_parts infoAttr
            have HII := Lib.hid (And.intro hii (And.intro hz0 (And.intro hz1 hz2)))
            obtain ⟨sa, sc, rfl⟩ := row_slice HR.out
            clear hB21 hii hz0 hz1 hz2
            go_wp2_with (at_builtin; refine wpList_append_own _ rfl (.tmp 40) (.tmp 42) 32 rfl w.heap.size 53 i0 _ 2 32 Tryd.underlying32 HII.out.1 HII.out.2.1 HII.out.2.2.1 HII.out.2.2.2 rfl (by omega) (.slice sa l.length sc) l.length (attrCellsV l) rfl HAP.out.1 ⟨w2.heap.size, 0, none⟩ 1 1 [.string a.1, .string a.2] rfl rfl HAP.out.2.1 (by simp [Value.oneCell']) (by have := HLN.out; simp only [maxLen]; omega) (by have := HLN.out; omega) (Nat.le_trans HN2.out HAP.out.2.2.size) ?_; intro v1 w3 hown hg _)
            go_roundw
            case rel =>
              rw [attrCellsV_add] at hown
              refine ⟨r', l ++ [a], rfl, ?_, HST.out, ?_, ?_⟩
              · have h1 := HS.out
                have h2 := HLS.out
                show r'.size + (l ++ [a]).length ≤ r0.size
                simp
                omega
              · show World.ownsRow _ _ _ _ _ _ _
                rw [List.length_append]
                exact hown
              · have hb1 := HB.out.trans (HAP.out.2.2.mono HB.out.size)
                exact hb1.grown hg hb1.size (fun k hk => ownBlock_base HR.out k hk)
            case measure =>
              have h2 := HLS.out
              simpa [sizeOf] using h2
end Go.Proofs.YtppgjkjdddanbaaDoor
