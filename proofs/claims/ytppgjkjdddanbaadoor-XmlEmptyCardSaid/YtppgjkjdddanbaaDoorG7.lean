/- xml's tag, as the plain function tells it. -/
import Derived.Test.YtppgjkjdddanbaaDoorG6
namespace Go.Proofs.YtppgjkjdddanbaaDoor
open Go.RowKit
open Hb

/-- a contract under which nothing that was there changes. -/
abbrev BC (w : World) (f : FuncId) (args : Array Value) (v : Value) : Prop := ∀ W, Below w.heap.size w W → Calls Tryd.prog f args W fun e w' => e = .returned v ∧ Below w.heap.size w w'
theorem charsC (w : World) (s : ByteArray) : BC w 30 #[.string s] (.bool (chars s.data.toList)) := fun W h => (chars_any s W).mono fun _ _ k => ⟨k.1, h.trans (k.2.mono h.size)⟩
theorem leadC (w : World) (s : ByteArray) (hs : s.size ≤ 9223372036854775807) : BC w 33 #[.string s] (.int .i64 (lead s.data.toList)) := fun W h => (lead_any s W hs).mono fun _ _ k => ⟨k.1, h.trans (k.2.mono h.size)⟩
theorem spaceC (w : World) (s : ByteArray) (hs : s.size ≤ 9223372036854775807) : BC w 31 #[.string s] (.bool (space s.data.toList)) := fun W h => (space_any s W hs).mono fun _ _ k => ⟨k.1, h.trans (k.2.mono h.size)⟩
theorem cutPreC (w : World) (s p : ByteArray) : BC w 32 #[.string s, .string p] (.tuple #[.string (cutPre s p).1, .bool (cutPre s p).2]) := fun W h => (cutPre_any s p W).mono fun _ _ k => ⟨k.1, by rw [k.2]; exact h⟩
theorem prefixC (w : World) (s p : ByteArray) : BC w 35 #[.string s, .string p] (.bool (preB s p)) := fun W h => (prefix_any s p W).mono fun _ _ k => ⟨k.1, by rw [k.2]; exact h⟩
theorem suffixC (w : World) (s p : ByteArray) (hs : s.size ≤ 9223372036854775807) : BC w 34 #[.string s, .string p] (.bool (sufB s p)) := fun W h => (Tryd.strings_HasSuffix s p W hs).mono fun _ _ k => ⟨k.1, by rw [k.2]; exact h⟩
theorem nameC (w : World) (s : ByteArray) (hs : s.size ≤ 9223372036854775806) (hn : nameOk s = true) : BC w 36 #[.string s] (.tuple #[.string (s.extract 0 (nameLen s.data.toList)), .string (s.extract (nameLen s.data.toList) s.size)]) := fun W h => (xname_any s W hs).mono fun _ _ k => by
  obtain ⟨k1, n, k2⟩ := k
  unfold nameTold at k1
  rw [if_pos hn] at k1
  rw [k2]
  exact ⟨k1, bdrewN h n⟩
theorem nameNo (w : World) (s : ByteArray) (hs : s.size ≤ 9223372036854775806) (hn : nameOk s = false) : ∀ W, Below w.heap.size w W → Calls Tryd.prog 36 #[.string s] W fun e w' => e = .panicked [{ v := faultV 6, recovered := false }] ∧ Below w.heap.size w w' := fun W h => (xname_any s W hs).mono fun _ _ k => by
  obtain ⟨k1, n, k2⟩ := k
  unfold nameTold at k1
  rw [if_neg (by rw [hn]; decide)] at k1
  rw [k2]
  exact ⟨k1, bdrewN h n⟩

theorem sl_mid (r : ByteArray) (h : 2 ≤ r.size) (W : World) : (Instr.slice 9 (.string r) (some (.int .i64 1)) (some (.int .i64 ((r.size : Int) - 1))) none).run Tryd.prog W = .ok (.string (r.extract 1 (r.size - 1))) W := by
  rw [run_slice_string (P := Tryd.prog) W 9 r .i64 .i64 1 ((r.size : Int) - 1) Tryd.underlying9 (by decide) (by omega) (by omega)]
  have e : ((r.size : Int) - 1).toNat = r.size - 1 := by omega
  rw [e]
  rfl

theorem row_take {w : World} {base g cap n k : Nat} {e : TypeId} {xs : List Value} (h : w.ownsRow base e k (.slice (some ⟨g, 0, none⟩) n cap) n xs) (m : Nat) (hm : m ≤ n) : w.ownsRow base e k (.slice (some ⟨g, 0, none⟩) m cap) m (xs.take (m * k)) := by
  have hmk : m * k ≤ n * k := Nat.mul_le_mul_right k hm
  rcases h.2 with ⟨h0, _⟩ | ⟨g', cap', cur, e1, e2, e3, e4, e5, e6, e7⟩
  · cases h0
  · cases e1
    refine ⟨?_, .inr ⟨g, cap, cur, rfl, e2, e3, by omega, e5, e6, ?_⟩⟩
    · rw [List.length_take, h.1]
      omega
    · rw [← e7, List.take_take]
      congr 1
      omega

/-! the plain function's ends -/
theorem tagP_decl {p : PS} {s : ByteArray} (h : chars s.data.toList = true) (hd : declB p (s.extract 1 (s.size - 1)) = true) : tagP p s = .ok (p, []) := by
  unfold tagP
  dsimp only
  rw [if_pos h, if_pos hd]
theorem tagP_barred {p : PS} {s : ByteArray} (h : chars s.data.toList = true) (hd : declB p (s.extract 1 (s.size - 1)) = false) (hb : preB (s.extract 1 (s.size - 1)) ⟨#[33]⟩ = true ∨ preB (s.extract 1 (s.size - 1)) ⟨#[63]⟩ = true) : tagP p s = .error 7 := by
  unfold tagP
  dsimp only
  rw [if_pos h, if_neg (by rw [hd]; decide), if_pos hb]
theorem tagP_end {p : PS} {s : ByteArray} (h : chars s.data.toList = true) (hd : declB p (s.extract 1 (s.size - 1)) = false) (hb : preB (s.extract 1 (s.size - 1)) ⟨#[33]⟩ = false) (hb2 : preB (s.extract 1 (s.size - 1)) ⟨#[63]⟩ = false) (hc : (cutPre (s.extract 1 (s.size - 1)) ⟨#[47]⟩).2 = true) : tagP p s = endP p (cutPre (s.extract 1 (s.size - 1)) ⟨#[47]⟩).1 := by
  unfold tagP
  dsimp only
  rw [if_pos h, if_neg (by rw [hd]; decide), if_neg (by rw [hb, hb2]; decide), if_pos hc]
theorem tagP_begin {p : PS} {s : ByteArray} (h : chars s.data.toList = true) (hd : declB p (s.extract 1 (s.size - 1)) = false) (hb : preB (s.extract 1 (s.size - 1)) ⟨#[33]⟩ = false) (hb2 : preB (s.extract 1 (s.size - 1)) ⟨#[63]⟩ = false) (hc : (cutPre (s.extract 1 (s.size - 1)) ⟨#[47]⟩).2 = false) : tagP p s = beginP p (s.extract 1 (s.size - 1)) := by
  unfold tagP
  dsimp only
  rw [if_pos h, if_neg (by rw [hd]; decide), if_neg (by rw [hb, hb2]; decide), if_neg (by rw [hc]; decide)]
theorem endP_no {p : PS} {a : ByteArray} (h : ¬ (nameOk a = true ∧ space (a.extract (nameLen a.data.toList) a.size).data.toList = true ∧ p.opn.getLast? = some (a.extract 0 (nameLen a.data.toList)))) : endP p a = .error 6 := by
  unfold endP
  rw [if_neg h]
theorem endP_ok {p : PS} {a : ByteArray} (h : nameOk a = true ∧ space (a.extract (nameLen a.data.toList) a.size).data.toList = true ∧ p.opn.getLast? = some (a.extract 0 (nameLen a.data.toList))) : endP p a = .ok ({ p with opn := p.opn.dropLast }, [⟨2, a.extract 0 (nameLen a.data.toList), [], ⟨#[]⟩⟩]) := by
  unfold endP
  rw [if_pos h]

theorem EndsB.cases {base bt A C : Nat} {ts : List Tok} {vw : Value} {w0 w w' : World} {R R' : Except Nat (PS × List Tok)} {o : Ending} (h : EndsB base bt A C ts vw w R o w') (hR : R' = R) (hb : Below w0.heap.size w0 w) :
    (∃ k : Nat, o = panic1 k ∧ EndsB base bt A C ts vw w0 R' (panic1 k) w') ∨ (o = .returned (.tuple #[]) ∧ EndsB base bt A C ts vw w0 R' (.returned (.tuple #[])) w') := by
  subst hR
  cases R' with
  | error k => exact .inl ⟨k, h.1, rfl, hb.trans (h.2.mono hb.size)⟩
  | ok y =>
    obtain ⟨h1, a, b, c, h2, h3⟩ := h
    exact .inr ⟨h1, rfl, a, b, c, h2, (Fr.below hb).trans h3⟩

set_option maxRecDepth 100000 in
set_option maxHeartbeats 16000000 in
theorem tag_any (base bt A C : Nat) (p : PS) (ts : List Tok) (vw vo vout : Value) (cells : List Value) (s : ByteArray) (w : World) (h : Inv w base bt A C p ts vw vo vout cells) (hs2 : 2 ≤ s.size) (hs : s.size ≤ 4096) (hb : bt ≤ w.heap.size) (hn : ts.length ≤ 1000000000) (hsm : p.opn.length ≤ 10000) :
    Calls Tryd.prog 28 #[pt A, .string s, tellV C] w (EndsB base bt A C ts vw w (tagP p s)) := by
  have HC := Lib.hid (charsC w s)
  have J0 := Below.refl w.heap.size w
  have HI := Lib.hid h
  have HSM := Lib.hid hsm
  clear h hsm
  cases hch : chars s.data.toList with
  | false =>
    rw [hch] at HC
    have HE := Lib.hid (show tagP p s = .error 6 by unfold tagP; dsimp only; rw [if_neg (by rw [hch]; decide)])
    generalize tagP p s = R at HE ⊢
    unfold tellV
    go_enter Tryd.func28, Tryd.ntmps28
    go_wp2_with fail
    go_at_call 30
    with_reducible refine (HC.out _ J0).mono ?_
    rintro e w1 ⟨rfl, J1⟩
    go_wp2_with fail
    go_at_call 27
    with_reducible refine (must_no 6 _).mono ?_
    rintro e wm ⟨rfl, hw⟩
    obtain rfl := hw.symm
    go_wp2_with fail
    exact ⟨rfl, EndsB.err HE.out J1⟩
  | true =>
    rw [hch] at HC
    have e1 := sl_mid s hs2
    have hi := extract_le s 1 (s.size - 1)
    have hdecl : declB p (s.extract 1 (s.size - 1)) = true → tagP p s = .ok (p, []) := tagP_decl hch
    have hbar := tagP_barred (p := p) hch
    have hend := tagP_end (p := p) hch
    have hbeg := tagP_begin (p := p) hch
    generalize s.extract 1 (s.size - 1) = i at e1 hi hdecl hbar hend hbeg
    generalize tagP p s = R at hdecl hbar hend hbeg ⊢
    have HX := Lib.hid (cutPreC w i ⟨#[63, 120, 109, 108]⟩)
    have hxs : (cutPre i ⟨#[63, 120, 109, 108]⟩).1.size ≤ i.size := by
      unfold cutPre
      split
      · exact extract_le _ _ _
      · exact Nat.le_refl _
    have hdB : declB p i = ((cutPre i ⟨#[63, 120, 109, 108]⟩).2 && !p.begun && decide (0 < lead (cutPre i ⟨#[63, 120, 109, 108]⟩).1.data.toList) && sufB (cutPre i ⟨#[63, 120, 109, 108]⟩).1 ⟨#[63]⟩) := rfl
    generalize (cutPre i ⟨#[63, 120, 109, 108]⟩).1 = xa at HX hxs hdB
    generalize (cutPre i ⟨#[63, 120, 109, 108]⟩).2 = xb at HX hdB
    have HL := Lib.hid (leadC w xa (by omega))
    have HSF := Lib.hid (suffixC w xa ⟨#[63]⟩ (by omega))
    have HP1 := Lib.hid (prefixC w i ⟨#[33]⟩)
    have HP2 := Lib.hid (prefixC w i ⟨#[63]⟩)
    have HCE := Lib.hid (cutPreC w i ⟨#[47]⟩)
    generalize lead xa.data.toList = k at HL hdB
    generalize sufB xa ⟨#[63]⟩ = sf at HSF hdB
    have hbg : ∀ W, Below w.heap.size w W → W.cell? ⟨A, 4, none⟩ = some (.bool p.begun) := fun W hW => (HI.out.below hW).box.cell 4
    have HBG := Lib.hid hbg
    clear hbg
    generalize declB p i = dB at hdB hdecl hbar hend hbeg
    have HDEC := Lib.hid hdecl
    have HBAR := Lib.hid hbar
    have HEND := Lib.hid hend
    have HBEG := Lib.hid hbeg
    clear hdecl hbar hend hbeg
    cases xb with
    | false =>
      have hdB := hdB
      rw [Bool.false_and, Bool.false_and, Bool.false_and] at hdB
      have HD := Lib.hid hdB
      clear hdB
      cases hb1 : preB i ⟨#[33]⟩ with
      | true =>
        rw [hb1] at HP1
        have HE := Lib.hid (HBAR.out HD.out (.inl hb1))
        unfold tellV
        go_enter Tryd.func28, Tryd.ntmps28
        go_wp2_with fail
        go_at_call 30
        with_reducible refine (HC.out _ J0).mono ?_
        rintro e w1 ⟨rfl, J1⟩
        go_wp2_with fail
        go_at_call 27
        with_reducible refine (must_ok _ _).mono ?_
        rintro e wm ⟨rfl, hw⟩
        obtain rfl := hw.symm
        go_wp2_with fail
        go_at_call 32
        with_reducible refine (HX.out _ J1).mono ?_
        rintro e w2 ⟨rfl, J2⟩
        go_wp2_with fail
        go_at_call 35
        with_reducible refine (HP1.out _ J2).mono ?_
        rintro e w5 ⟨rfl, J5⟩
        go_wp2_with fail
        go_at_call 27
        with_reducible refine (must_no 7 _).mono ?_
        rintro e wm ⟨rfl, hw⟩
        obtain rfl := hw.symm
        go_wp2_with fail
        exact ⟨rfl, EndsB.err HE.out J5⟩
      | false =>
        rw [hb1] at HP1
        cases hb2 : preB i ⟨#[63]⟩ with
        | true =>
          rw [hb2] at HP2
          have HE := Lib.hid (HBAR.out HD.out (.inr hb2))
          unfold tellV
          go_enter Tryd.func28, Tryd.ntmps28
          go_wp2_with fail
          go_at_call 30
          with_reducible refine (HC.out _ J0).mono ?_
          rintro e w1 ⟨rfl, J1⟩
          go_wp2_with fail
          go_at_call 27
          with_reducible refine (must_ok _ _).mono ?_
          rintro e wm ⟨rfl, hw⟩
          obtain rfl := hw.symm
          go_wp2_with fail
          go_at_call 32
          with_reducible refine (HX.out _ J1).mono ?_
          rintro e w2 ⟨rfl, J2⟩
          go_wp2_with fail
          go_at_call 35
          with_reducible refine (HP1.out _ J2).mono ?_
          rintro e w5 ⟨rfl, J5⟩
          go_wp2_with fail
          go_at_call 35
          with_reducible refine (HP2.out _ J5).mono ?_
          rintro e w6 ⟨rfl, J6⟩
          go_wp2_with fail
          go_at_call 27
          with_reducible refine (must_no 7 _).mono ?_
          rintro e wm ⟨rfl, hw⟩
          obtain rfl := hw.symm
          go_wp2_with fail
          exact ⟨rfl, EndsB.err HE.out J6⟩
        | false =>
          rw [hb2] at HP2
          have hEN := HEND.out HD.out hb1 hb2
          have hBG := HBEG.out HD.out hb1 hb2
          have hcs : (cutPre i ⟨#[47]⟩).1.size ≤ i.size := by
            unfold cutPre
            split
            · exact extract_le _ _ _
            · exact Nat.le_refl _
          generalize (cutPre i ⟨#[47]⟩).1 = ca at HCE hEN hcs
          generalize (cutPre i ⟨#[47]⟩).2 = cb at HCE hEN hBG
          cases cb with
          | false =>
            have HR := Lib.hid (hBG rfl)
            have HBE := Lib.hid (fun W (hW : Below w.heap.size w W) => begin_any base bt A C p ts vw vo vout cells i W (HI.out.below hW) (by omega) (Nat.le_trans hb hW.size) hn)
            clear hBG hEN
            unfold tellV
            go_enter Tryd.func28, Tryd.ntmps28
            go_wp2_with fail
            go_at_call 30
            with_reducible refine (HC.out _ J0).mono ?_
            rintro e w1 ⟨rfl, J1⟩
            go_wp2_with fail
            go_at_call 27
            with_reducible refine (must_ok _ _).mono ?_
            rintro e wm ⟨rfl, hw⟩
            obtain rfl := hw.symm
            go_wp2_with fail
            go_at_call 32
            with_reducible refine (HX.out _ J1).mono ?_
            rintro e w2 ⟨rfl, J2⟩
            go_wp2_with fail
            go_at_call 35
            with_reducible refine (HP1.out _ J2).mono ?_
            rintro e w5 ⟨rfl, J5⟩
            go_wp2_with fail
            go_at_call 35
            with_reducible refine (HP2.out _ J5).mono ?_
            rintro e w6 ⟨rfl, J6⟩
            go_wp2_with fail
            go_at_call 27
            with_reducible refine (must_ok _ _).mono ?_
            rintro e wm ⟨rfl, hw⟩
            obtain rfl := hw.symm
            go_wp2_with fail
            go_at_call 32
            with_reducible refine (HCE.out _ J6).mono ?_
            rintro e w7 ⟨rfl, J7⟩
            go_wp2_with fail
            refine (HBE.out _ J7).mono ?_
            intro o w8 hQ
            have HQ := Lib.hid hQ
            clear hQ
            obtain ⟨hq1⟩ | ⟨hq1⟩ := EndsB.cases HQ.out HR.out J7
            · obtain ⟨ke, rfl, hq2⟩ := hq1
              unfold panic1
              go_wp2_with fail
              exact ⟨rfl, hq2⟩
            · obtain ⟨rfl, hq2⟩ := hq1
              go_wp2_with fail
              go_returns
              exact hq2
          | true =>
            have hR := hEN rfl
            clear hBG hEN
            cases hnm : nameOk ca with
            | false =>
              have HN := Lib.hid (nameNo w ca (by omega) hnm)
              have HE := Lib.hid (hR.trans (endP_no (fun hh => by rw [hnm] at hh; cases hh.1)))
              clear hR
              unfold tellV
              go_enter Tryd.func28, Tryd.ntmps28
              go_wp2_with fail
              go_at_call 30
              with_reducible refine (HC.out _ J0).mono ?_
              rintro e w1 ⟨rfl, J1⟩
              go_wp2_with fail
              go_at_call 27
              with_reducible refine (must_ok _ _).mono ?_
              rintro e wm ⟨rfl, hw⟩
              obtain rfl := hw.symm
              go_wp2_with fail
              go_at_call 32
              with_reducible refine (HX.out _ J1).mono ?_
              rintro e w2 ⟨rfl, J2⟩
              go_wp2_with fail
              go_at_call 35
              with_reducible refine (HP1.out _ J2).mono ?_
              rintro e w5 ⟨rfl, J5⟩
              go_wp2_with fail
              go_at_call 35
              with_reducible refine (HP2.out _ J5).mono ?_
              rintro e w6 ⟨rfl, J6⟩
              go_wp2_with fail
              go_at_call 27
              with_reducible refine (must_ok _ _).mono ?_
              rintro e wm ⟨rfl, hw⟩
              obtain rfl := hw.symm
              go_wp2_with fail
              go_at_call 32
              with_reducible refine (HCE.out _ J6).mono ?_
              rintro e w7 ⟨rfl, J7⟩
              go_wp2_with fail
              go_at_call 36
              with_reducible refine (HN.out _ J7).mono ?_
              rintro e w8 ⟨rfl, J8⟩
              go_wp2_with fail
              exact ⟨rfl, EndsB.err HE.out J8⟩
            | true =>
              have HN := Lib.hid (nameC w ca (by omega) hnm)
              have hrs := extract_le ca (nameLen ca.data.toList) ca.size
              have hno := fun hh => hR.trans (endP_no (p := p) (a := ca) hh)
              have hok := fun hh => hR.trans (endP_ok (p := p) (a := ca) hh)
              generalize ca.extract (nameLen ca.data.toList) ca.size = rs at HN hrs hno hok
              generalize ca.extract 0 (nameLen ca.data.toList) = x at HN hno hok
              have HSP := Lib.hid (spaceC w rs (by omega))
              obtain ⟨go, co, hvo⟩ := row_slice HI.out.opn
              subst hvo
              have HX2 := Lib.hid (show ∀ W, Below w.heap.size w W → W.cell? ⟨A, 2, none⟩ = some (.slice go p.opn.length co) from fun W hW => (HI.out.below hW).box.cell 2)
              cases hsp : space rs.data.toList with
              | false =>
                rw [hsp] at HSP
                have HE := Lib.hid (hno (fun hh => by rw [hsp] at hh; cases hh.2.1))
                clear hno hok hR
                generalize p.opn.length = d at HX2
                unfold tellV
                go_enter Tryd.func28, Tryd.ntmps28
                go_wp2_with fail
                go_at_call 30
                with_reducible refine (HC.out _ J0).mono ?_
                rintro e w1 ⟨rfl, J1⟩
                go_wp2_with fail
                go_at_call 27
                with_reducible refine (must_ok _ _).mono ?_
                rintro e wm ⟨rfl, hw⟩
                obtain rfl := hw.symm
                go_wp2_with fail
                go_at_call 32
                with_reducible refine (HX.out _ J1).mono ?_
                rintro e w2 ⟨rfl, J2⟩
                go_wp2_with fail
                go_at_call 35
                with_reducible refine (HP1.out _ J2).mono ?_
                rintro e w5 ⟨rfl, J5⟩
                go_wp2_with fail
                go_at_call 35
                with_reducible refine (HP2.out _ J5).mono ?_
                rintro e w6 ⟨rfl, J6⟩
                go_wp2_with fail
                go_at_call 27
                with_reducible refine (must_ok _ _).mono ?_
                rintro e wm ⟨rfl, hw⟩
                obtain rfl := hw.symm
                go_wp2_with fail
                go_at_call 32
                with_reducible refine (HCE.out _ J6).mono ?_
                rintro e w7 ⟨rfl, J7⟩
                go_wp2_with fail
                go_at_call 36
                with_reducible refine (HN.out _ J7).mono ?_
                rintro e w8 ⟨rfl, J8⟩
                have x2 := HX2.out _ J8
                go_wp2_with fail
                go_at_call 31
                with_reducible refine (HSP.out _ J8).mono ?_
                rintro e w9 ⟨rfl, J9⟩
                go_wp2_with fail
                go_at_call 27
                with_reducible refine (must_no 6 _).mono ?_
                rintro e wm ⟨rfl, hw⟩
                obtain rfl := hw.symm
                go_wp2_with fail
                exact ⟨rfl, EndsB.err HE.out J9⟩
              | true =>
                rw [hsp] at HSP
                rcases List.eq_nil_or_concat p.opn with ho | ⟨init, y, ho⟩
                · have HE := Lib.hid (hno (fun hh => by rw [ho] at hh; cases hh.2.2))
                  have hl0 : p.opn.length = 0 := by rw [ho]; rfl
                  rw [hl0] at HX2
                  have cd : decide ((0 : Nat) < 0) = false := rfl
                  clear hno hok hR
                  unfold tellV
                  go_enter Tryd.func28, Tryd.ntmps28
                  go_wp2_with fail
                  go_at_call 30
                  with_reducible refine (HC.out _ J0).mono ?_
                  rintro e w1 ⟨rfl, J1⟩
                  go_wp2_with fail
                  go_at_call 27
                  with_reducible refine (must_ok _ _).mono ?_
                  rintro e wm ⟨rfl, hw⟩
                  obtain rfl := hw.symm
                  go_wp2_with fail
                  go_at_call 32
                  with_reducible refine (HX.out _ J1).mono ?_
                  rintro e w2 ⟨rfl, J2⟩
                  go_wp2_with fail
                  go_at_call 35
                  with_reducible refine (HP1.out _ J2).mono ?_
                  rintro e w5 ⟨rfl, J5⟩
                  go_wp2_with fail
                  go_at_call 35
                  with_reducible refine (HP2.out _ J5).mono ?_
                  rintro e w6 ⟨rfl, J6⟩
                  go_wp2_with fail
                  go_at_call 27
                  with_reducible refine (must_ok _ _).mono ?_
                  rintro e wm ⟨rfl, hw⟩
                  obtain rfl := hw.symm
                  go_wp2_with fail
                  go_at_call 32
                  with_reducible refine (HCE.out _ J6).mono ?_
                  rintro e w7 ⟨rfl, J7⟩
                  go_wp2_with fail
                  go_at_call 36
                  with_reducible refine (HN.out _ J7).mono ?_
                  rintro e w8 ⟨rfl, J8⟩
                  have x2 := HX2.out _ J8
                  go_wp2_with fail
                  go_at_call 31
                  with_reducible refine (HSP.out _ J8).mono ?_
                  rintro e w9 ⟨rfl, J9⟩
                  go_wp2_with fail
                  go_at_call 27
                  with_reducible refine (must_no 6 _).mono ?_
                  rintro e wm ⟨rfl, hw⟩
                  obtain rfl := hw.symm
                  go_wp2_with fail
                  exact ⟨rfl, EndsB.err HE.out J9⟩
                · rw [List.concat_eq_append] at ho
                  have hln : p.opn.length = init.length + 1 := by rw [ho, List.length_append]; rfl
                  rw [hln] at HX2
                  obtain ⟨g, hgo⟩ : ∃ g, go = some ⟨g, 0, none⟩ := by
                    rcases HI.out.opn.2 with ⟨_, e2⟩ | ⟨g, cap, cur, e1, _⟩
                    · rw [ho] at e2; simp at e2
                    · injection e1 with e1 _ _
                      exact ⟨g, e1⟩
                  subst hgo
                  have HROW := Lib.hid (show ∀ W, Below w.heap.size w W → W.ownsRow 0 9 1 (.slice (some ⟨g, 0, none⟩) (init.length + 1) co) (init.length + 1) ((init ++ [y]).map Value.string) from fun W hW => by
                    have := (HI.out.below hW).opn
                    rw [hln, ho] at this
                    exact this)
                  have hlast : ∀ W, Below w.heap.size w W → W.cell? ⟨g, init.length, none⟩ = some (.string y) := fun W hW => by
                    have h1 := World.ownsRow.cells (HROW.out W hW) (g := g) rfl init.length (.string y) (by simp)
                    have ha : (⟨g, 0, none⟩ : Addr).add init.length = ⟨g, init.length, none⟩ := by unfold Addr.add; split <;> simp_all
                    rwa [ha] at h1
                  have HLAST := Lib.hid hlast
                  have hgl : p.opn.getLast? = some y := by rw [ho]; simp
                  have hdl : p.opn.dropLast = init := by rw [ho]; simp
                  have hco : init.length + 1 ≤ co := by
                    rcases (HROW.out w (Below.refl _ w)).2 with ⟨e1, _⟩ | ⟨_, cap, cur, e1, _, _, e4, _⟩
                    · cases e1
                    · cases e1; exact e4
                  have hyx : (y.toList == x.toList) = true → y = x := fun hh => by
                    have h1 := eq_of_beq hh
                    rw [ByteArray.toList_eq, ByteArray.toList_eq] at h1
                    apply ByteArray.ext
                    exact Array.ext' h1
                  have hxy : y = x → (y.toList == x.toList) = true := fun hh => by rw [hh]; exact beq_self_eq_true _
                  have hnl : init.length ≤ 100000 := by have := HSM.out; omega
                  clear hlast ho hln
                  generalize hnn : init.length = n at *
                  cases hyy : (y.toList == x.toList) with
                  | false =>
                    have HE := Lib.hid (hno (fun hh => by
                      have h1 := hh.2.2
                      rw [hgl] at h1
                      rw [hxy (Option.some.inj h1)] at hyy
                      cases hyy))
                    clear hno hok hR hyx hxy hgl hdl
                    unfold tellV
                    go_enter Tryd.func28, Tryd.ntmps28
                    go_wp2_with fail
                    go_at_call 30
                    with_reducible refine (HC.out _ J0).mono ?_
                    rintro e w1 ⟨rfl, J1⟩
                    go_wp2_with fail
                    go_at_call 27
                    with_reducible refine (must_ok _ _).mono ?_
                    rintro e wm ⟨rfl, hw⟩
                    obtain rfl := hw.symm
                    go_wp2_with fail
                    go_at_call 32
                    with_reducible refine (HX.out _ J1).mono ?_
                    rintro e w2 ⟨rfl, J2⟩
                    go_wp2_with fail
                    go_at_call 35
                    with_reducible refine (HP1.out _ J2).mono ?_
                    rintro e w5 ⟨rfl, J5⟩
                    go_wp2_with fail
                    go_at_call 35
                    with_reducible refine (HP2.out _ J5).mono ?_
                    rintro e w6 ⟨rfl, J6⟩
                    go_wp2_with fail
                    go_at_call 27
                    with_reducible refine (must_ok _ _).mono ?_
                    rintro e wm ⟨rfl, hw⟩
                    obtain rfl := hw.symm
                    go_wp2_with fail
                    go_at_call 32
                    with_reducible refine (HCE.out _ J6).mono ?_
                    rintro e w7 ⟨rfl, J7⟩
                    go_wp2_with fail
                    go_at_call 36
                    with_reducible refine (HN.out _ J7).mono ?_
                    rintro e w8 ⟨rfl, J8⟩
                    have x2 := HX2.out _ J8
                    go_wp2_with fail
                    go_at_call 31
                    with_reducible refine (HSP.out _ J8).mono ?_
                    rintro e w9 ⟨rfl, J9⟩
                    have y2 := HX2.out _ J9
                    have y3 := HLAST.out _ J9
                    go_wp2_with fail
                    go_at_call 27
                    with_reducible refine (must_no 6 _).mono ?_
                    rintro e wm ⟨rfl, hw⟩
                    obtain rfl := hw.symm
                    go_wp2_with fail
                    exact ⟨rfl, EndsB.err HE.out J9⟩
                  | true =>
                    have HE := Lib.hid (hok ⟨hnm, hsp, by rw [hgl, hyx hyy]⟩)
                    rw [hdl] at HE
                    have b1 : (0 : Int) ≤ (n : Int) := by omega
                    have b2 : (n : Int) ≤ (co : Int) := by omega
                    have hT : ∀ W, Below w.heap.size w W → Calls Tryd.prog 21 #[.slice (some ⟨W.heap.size, 0, none⟩) 1 1, pt C] ((W.setCell ⟨A, 2, none⟩ (.slice (some ⟨g, 0, none⟩) n co)).alloc (.cells #[.int .u8 2, .string x, .slice none 0 0, .string ⟨#[]⟩] 34)) fun o w' => o = .returned (.tuple #[]) ∧
                        ∃ vo2 v2 cells2, Inv w' base bt A C { p with opn := init } (ts ++ [⟨2, x, [], ⟨#[]⟩⟩]) vw vo2 v2 cells2 ∧ Fr A base bt w w' := fun W hW => by
                      have hrow := row_take (HROW.out W hW) n (by omega)
                      rw [Nat.mul_one, List.map_append, List.take_left' (by rw [List.length_map, hnn])] at hrow
                      have hI := (HI.out.below hW).setOpn (.slice (some ⟨g, 0, none⟩) n co) init (by rw [hnn]; exact hrow)
                      have hsz : (W.setCell ⟨A, 2, none⟩ (.slice (some ⟨g, 0, none⟩) n co)).heap.size = W.heap.size := by simp [World.setCell]
                      have hT1 := tellI hI 2 2 rfl x ⟨#[]⟩ [] (.slice none 0 0) (World.ownsRow_nil _ _ _ _) (by rw [hsz]; exact Nat.le_trans hb hW.size) (by omega)
                      rw [hsz] at hT1
                      refine hT1.mono ?_
                      rintro o w' ⟨h1, v1, cs, h2, h3⟩
                      exact ⟨h1, _, v1, cs, h2, ((Fr.below hW).trans (Fr.setA A base bt 2 _ W)).trans h3⟩
                    have HT := Lib.hid hT
                    clear hno hok hR hyx hxy hgl hdl hT
                    unfold tellV
                    go_enter Tryd.func28, Tryd.ntmps28
                    go_wp2_with fail
                    go_at_call 30
                    with_reducible refine (HC.out _ J0).mono ?_
                    rintro e w1 ⟨rfl, J1⟩
                    go_wp2_with fail
                    go_at_call 27
                    with_reducible refine (must_ok _ _).mono ?_
                    rintro e wm ⟨rfl, hw⟩
                    obtain rfl := hw.symm
                    go_wp2_with fail
                    go_at_call 32
                    with_reducible refine (HX.out _ J1).mono ?_
                    rintro e w2 ⟨rfl, J2⟩
                    go_wp2_with fail
                    go_at_call 35
                    with_reducible refine (HP1.out _ J2).mono ?_
                    rintro e w5 ⟨rfl, J5⟩
                    go_wp2_with fail
                    go_at_call 35
                    with_reducible refine (HP2.out _ J5).mono ?_
                    rintro e w6 ⟨rfl, J6⟩
                    go_wp2_with fail
                    go_at_call 27
                    with_reducible refine (must_ok _ _).mono ?_
                    rintro e wm ⟨rfl, hw⟩
                    obtain rfl := hw.symm
                    go_wp2_with fail
                    go_at_call 32
                    with_reducible refine (HCE.out _ J6).mono ?_
                    rintro e w7 ⟨rfl, J7⟩
                    go_wp2_with fail
                    go_at_call 36
                    with_reducible refine (HN.out _ J7).mono ?_
                    rintro e w8 ⟨rfl, J8⟩
                    have x2 := HX2.out _ J8
                    go_wp2_with fail
                    go_at_call 31
                    with_reducible refine (HSP.out _ J8).mono ?_
                    rintro e w9 ⟨rfl, J9⟩
                    have y2 := HX2.out _ J9
                    have y3 := HLAST.out _ J9
                    have f2 := (HI.out.below J9).box.f 2
                    go_wp2_with fail
                    go_at_call 27
                    with_reducible refine (must_ok _ _).mono ?_
                    rintro e wm ⟨rfl, hw⟩
                    obtain rfl := hw.symm
                    go_wp2_with fail
                    with_reducible refine (HT.out _ J9).mono ?_
                    rintro e w10 ⟨rfl, hQ⟩
                    have HQ := Lib.hid hQ
                    clear hQ
                    go_wp2_with fail
                    go_returns
                    obtain ⟨vo2, v2, cells2, h1, h2⟩ := HQ.out
                    exact EndsB.good HE.out h1 h2
    | true =>
      cases hbg : p.begun with
      | true =>
        rw [hbg] at HBG hdB
        have hdB : dB = false := by rw [hdB]; rfl
        have HD := Lib.hid hdB
        clear hdB
        cases hb1 : preB i ⟨#[33]⟩ with
        | true =>
          rw [hb1] at HP1
          have HE := Lib.hid (HBAR.out HD.out (.inl hb1))
          unfold tellV
          go_enter Tryd.func28, Tryd.ntmps28
          go_wp2_with fail
          go_at_call 30
          with_reducible refine (HC.out _ J0).mono ?_
          rintro e w1 ⟨rfl, J1⟩
          go_wp2_with fail
          go_at_call 27
          with_reducible refine (must_ok _ _).mono ?_
          rintro e wm ⟨rfl, hw⟩
          obtain rfl := hw.symm
          go_wp2_with fail
          go_at_call 32
          with_reducible refine (HX.out _ J1).mono ?_
          rintro e w2 ⟨rfl, J2⟩
          have x4 := HBG.out _ J2
          go_wp2_with fail
          go_at_call 35
          with_reducible refine (HP1.out _ J2).mono ?_
          rintro e w5 ⟨rfl, J5⟩
          go_wp2_with fail
          go_at_call 27
          with_reducible refine (must_no 7 _).mono ?_
          rintro e wm ⟨rfl, hw⟩
          obtain rfl := hw.symm
          go_wp2_with fail
          exact ⟨rfl, EndsB.err HE.out J5⟩
        | false =>
          rw [hb1] at HP1
          cases hb2 : preB i ⟨#[63]⟩ with
          | true =>
            rw [hb2] at HP2
            have HE := Lib.hid (HBAR.out HD.out (.inr hb2))
            unfold tellV
            go_enter Tryd.func28, Tryd.ntmps28
            go_wp2_with fail
            go_at_call 30
            with_reducible refine (HC.out _ J0).mono ?_
            rintro e w1 ⟨rfl, J1⟩
            go_wp2_with fail
            go_at_call 27
            with_reducible refine (must_ok _ _).mono ?_
            rintro e wm ⟨rfl, hw⟩
            obtain rfl := hw.symm
            go_wp2_with fail
            go_at_call 32
            with_reducible refine (HX.out _ J1).mono ?_
            rintro e w2 ⟨rfl, J2⟩
            have x4 := HBG.out _ J2
            go_wp2_with fail
            go_at_call 35
            with_reducible refine (HP1.out _ J2).mono ?_
            rintro e w5 ⟨rfl, J5⟩
            go_wp2_with fail
            go_at_call 35
            with_reducible refine (HP2.out _ J5).mono ?_
            rintro e w6 ⟨rfl, J6⟩
            go_wp2_with fail
            go_at_call 27
            with_reducible refine (must_no 7 _).mono ?_
            rintro e wm ⟨rfl, hw⟩
            obtain rfl := hw.symm
            go_wp2_with fail
            exact ⟨rfl, EndsB.err HE.out J6⟩
          | false =>
            rw [hb2] at HP2
            have hEN := HEND.out HD.out hb1 hb2
            have hBG := HBEG.out HD.out hb1 hb2
            have hcs : (cutPre i ⟨#[47]⟩).1.size ≤ i.size := by
              unfold cutPre
              split
              · exact extract_le _ _ _
              · exact Nat.le_refl _
            generalize (cutPre i ⟨#[47]⟩).1 = ca at HCE hEN hcs
            generalize (cutPre i ⟨#[47]⟩).2 = cb at HCE hEN hBG
            cases cb with
            | false =>
              have HR := Lib.hid (hBG rfl)
              have HBE := Lib.hid (fun W (hW : Below w.heap.size w W) => begin_any base bt A C p ts vw vo vout cells i W (HI.out.below hW) (by omega) (Nat.le_trans hb hW.size) hn)
              clear hBG hEN
              unfold tellV
              go_enter Tryd.func28, Tryd.ntmps28
              go_wp2_with fail
              go_at_call 30
              with_reducible refine (HC.out _ J0).mono ?_
              rintro e w1 ⟨rfl, J1⟩
              go_wp2_with fail
              go_at_call 27
              with_reducible refine (must_ok _ _).mono ?_
              rintro e wm ⟨rfl, hw⟩
              obtain rfl := hw.symm
              go_wp2_with fail
              go_at_call 32
              with_reducible refine (HX.out _ J1).mono ?_
              rintro e w2 ⟨rfl, J2⟩
              have x4 := HBG.out _ J2
              go_wp2_with fail
              go_at_call 35
              with_reducible refine (HP1.out _ J2).mono ?_
              rintro e w5 ⟨rfl, J5⟩
              go_wp2_with fail
              go_at_call 35
              with_reducible refine (HP2.out _ J5).mono ?_
              rintro e w6 ⟨rfl, J6⟩
              go_wp2_with fail
              go_at_call 27
              with_reducible refine (must_ok _ _).mono ?_
              rintro e wm ⟨rfl, hw⟩
              obtain rfl := hw.symm
              go_wp2_with fail
              go_at_call 32
              with_reducible refine (HCE.out _ J6).mono ?_
              rintro e w7 ⟨rfl, J7⟩
              go_wp2_with fail
              refine (HBE.out _ J7).mono ?_
              intro o w8 hQ
              have HQ := Lib.hid hQ
              clear hQ
              obtain ⟨hq1⟩ | ⟨hq1⟩ := EndsB.cases HQ.out HR.out J7
              · obtain ⟨ke, rfl, hq2⟩ := hq1
                unfold panic1
                go_wp2_with fail
                exact ⟨rfl, hq2⟩
              · obtain ⟨rfl, hq2⟩ := hq1
                go_wp2_with fail
                go_returns
                exact hq2
            | true =>
              have hR := hEN rfl
              clear hBG hEN
              cases hnm : nameOk ca with
              | false =>
                have HN := Lib.hid (nameNo w ca (by omega) hnm)
                have HE := Lib.hid (hR.trans (endP_no (fun hh => by rw [hnm] at hh; cases hh.1)))
                clear hR
                unfold tellV
                go_enter Tryd.func28, Tryd.ntmps28
                go_wp2_with fail
                go_at_call 30
                with_reducible refine (HC.out _ J0).mono ?_
                rintro e w1 ⟨rfl, J1⟩
                go_wp2_with fail
                go_at_call 27
                with_reducible refine (must_ok _ _).mono ?_
                rintro e wm ⟨rfl, hw⟩
                obtain rfl := hw.symm
                go_wp2_with fail
                go_at_call 32
                with_reducible refine (HX.out _ J1).mono ?_
                rintro e w2 ⟨rfl, J2⟩
                have x4 := HBG.out _ J2
                go_wp2_with fail
                go_at_call 35
                with_reducible refine (HP1.out _ J2).mono ?_
                rintro e w5 ⟨rfl, J5⟩
                go_wp2_with fail
                go_at_call 35
                with_reducible refine (HP2.out _ J5).mono ?_
                rintro e w6 ⟨rfl, J6⟩
                go_wp2_with fail
                go_at_call 27
                with_reducible refine (must_ok _ _).mono ?_
                rintro e wm ⟨rfl, hw⟩
                obtain rfl := hw.symm
                go_wp2_with fail
                go_at_call 32
                with_reducible refine (HCE.out _ J6).mono ?_
                rintro e w7 ⟨rfl, J7⟩
                go_wp2_with fail
                go_at_call 36
                with_reducible refine (HN.out _ J7).mono ?_
                rintro e w8 ⟨rfl, J8⟩
                go_wp2_with fail
                exact ⟨rfl, EndsB.err HE.out J8⟩
              | true =>
                have HN := Lib.hid (nameC w ca (by omega) hnm)
                have hrs := extract_le ca (nameLen ca.data.toList) ca.size
                have hno := fun hh => hR.trans (endP_no (p := p) (a := ca) hh)
                have hok := fun hh => hR.trans (endP_ok (p := p) (a := ca) hh)
                generalize ca.extract (nameLen ca.data.toList) ca.size = rs at HN hrs hno hok
                generalize ca.extract 0 (nameLen ca.data.toList) = x at HN hno hok
                have HSP := Lib.hid (spaceC w rs (by omega))
                obtain ⟨go, co, hvo⟩ := row_slice HI.out.opn
                subst hvo
                have HX2 := Lib.hid (show ∀ W, Below w.heap.size w W → W.cell? ⟨A, 2, none⟩ = some (.slice go p.opn.length co) from fun W hW => (HI.out.below hW).box.cell 2)
                cases hsp : space rs.data.toList with
                | false =>
                  rw [hsp] at HSP
                  have HE := Lib.hid (hno (fun hh => by rw [hsp] at hh; cases hh.2.1))
                  clear hno hok hR
                  generalize p.opn.length = d at HX2
                  unfold tellV
                  go_enter Tryd.func28, Tryd.ntmps28
                  go_wp2_with fail
                  go_at_call 30
                  with_reducible refine (HC.out _ J0).mono ?_
                  rintro e w1 ⟨rfl, J1⟩
                  go_wp2_with fail
                  go_at_call 27
                  with_reducible refine (must_ok _ _).mono ?_
                  rintro e wm ⟨rfl, hw⟩
                  obtain rfl := hw.symm
                  go_wp2_with fail
                  go_at_call 32
                  with_reducible refine (HX.out _ J1).mono ?_
                  rintro e w2 ⟨rfl, J2⟩
                  have x4 := HBG.out _ J2
                  go_wp2_with fail
                  go_at_call 35
                  with_reducible refine (HP1.out _ J2).mono ?_
                  rintro e w5 ⟨rfl, J5⟩
                  go_wp2_with fail
                  go_at_call 35
                  with_reducible refine (HP2.out _ J5).mono ?_
                  rintro e w6 ⟨rfl, J6⟩
                  go_wp2_with fail
                  go_at_call 27
                  with_reducible refine (must_ok _ _).mono ?_
                  rintro e wm ⟨rfl, hw⟩
                  obtain rfl := hw.symm
                  go_wp2_with fail
                  go_at_call 32
                  with_reducible refine (HCE.out _ J6).mono ?_
                  rintro e w7 ⟨rfl, J7⟩
                  go_wp2_with fail
                  go_at_call 36
                  with_reducible refine (HN.out _ J7).mono ?_
                  rintro e w8 ⟨rfl, J8⟩
                  have x2 := HX2.out _ J8
                  go_wp2_with fail
                  go_at_call 31
                  with_reducible refine (HSP.out _ J8).mono ?_
                  rintro e w9 ⟨rfl, J9⟩
                  go_wp2_with fail
                  go_at_call 27
                  with_reducible refine (must_no 6 _).mono ?_
                  rintro e wm ⟨rfl, hw⟩
                  obtain rfl := hw.symm
                  go_wp2_with fail
                  exact ⟨rfl, EndsB.err HE.out J9⟩
                | true =>
                  rw [hsp] at HSP
                  rcases List.eq_nil_or_concat p.opn with ho | ⟨init, y, ho⟩
                  · have HE := Lib.hid (hno (fun hh => by rw [ho] at hh; cases hh.2.2))
                    have hl0 : p.opn.length = 0 := by rw [ho]; rfl
                    rw [hl0] at HX2
                    have cd : decide ((0 : Nat) < 0) = false := rfl
                    clear hno hok hR
                    unfold tellV
                    go_enter Tryd.func28, Tryd.ntmps28
                    go_wp2_with fail
                    go_at_call 30
                    with_reducible refine (HC.out _ J0).mono ?_
                    rintro e w1 ⟨rfl, J1⟩
                    go_wp2_with fail
                    go_at_call 27
                    with_reducible refine (must_ok _ _).mono ?_
                    rintro e wm ⟨rfl, hw⟩
                    obtain rfl := hw.symm
                    go_wp2_with fail
                    go_at_call 32
                    with_reducible refine (HX.out _ J1).mono ?_
                    rintro e w2 ⟨rfl, J2⟩
                    have x4 := HBG.out _ J2
                    go_wp2_with fail
                    go_at_call 35
                    with_reducible refine (HP1.out _ J2).mono ?_
                    rintro e w5 ⟨rfl, J5⟩
                    go_wp2_with fail
                    go_at_call 35
                    with_reducible refine (HP2.out _ J5).mono ?_
                    rintro e w6 ⟨rfl, J6⟩
                    go_wp2_with fail
                    go_at_call 27
                    with_reducible refine (must_ok _ _).mono ?_
                    rintro e wm ⟨rfl, hw⟩
                    obtain rfl := hw.symm
                    go_wp2_with fail
                    go_at_call 32
                    with_reducible refine (HCE.out _ J6).mono ?_
                    rintro e w7 ⟨rfl, J7⟩
                    go_wp2_with fail
                    go_at_call 36
                    with_reducible refine (HN.out _ J7).mono ?_
                    rintro e w8 ⟨rfl, J8⟩
                    have x2 := HX2.out _ J8
                    go_wp2_with fail
                    go_at_call 31
                    with_reducible refine (HSP.out _ J8).mono ?_
                    rintro e w9 ⟨rfl, J9⟩
                    go_wp2_with fail
                    go_at_call 27
                    with_reducible refine (must_no 6 _).mono ?_
                    rintro e wm ⟨rfl, hw⟩
                    obtain rfl := hw.symm
                    go_wp2_with fail
                    exact ⟨rfl, EndsB.err HE.out J9⟩
                  · rw [List.concat_eq_append] at ho
                    have hln : p.opn.length = init.length + 1 := by rw [ho, List.length_append]; rfl
                    rw [hln] at HX2
                    obtain ⟨g, hgo⟩ : ∃ g, go = some ⟨g, 0, none⟩ := by
                      rcases HI.out.opn.2 with ⟨_, e2⟩ | ⟨g, cap, cur, e1, _⟩
                      · rw [ho] at e2; simp at e2
                      · injection e1 with e1 _ _
                        exact ⟨g, e1⟩
                    subst hgo
                    have HROW := Lib.hid (show ∀ W, Below w.heap.size w W → W.ownsRow 0 9 1 (.slice (some ⟨g, 0, none⟩) (init.length + 1) co) (init.length + 1) ((init ++ [y]).map Value.string) from fun W hW => by
                      have := (HI.out.below hW).opn
                      rw [hln, ho] at this
                      exact this)
                    have hlast : ∀ W, Below w.heap.size w W → W.cell? ⟨g, init.length, none⟩ = some (.string y) := fun W hW => by
                      have h1 := World.ownsRow.cells (HROW.out W hW) (g := g) rfl init.length (.string y) (by simp)
                      have ha : (⟨g, 0, none⟩ : Addr).add init.length = ⟨g, init.length, none⟩ := by unfold Addr.add; split <;> simp_all
                      rwa [ha] at h1
                    have HLAST := Lib.hid hlast
                    have hgl : p.opn.getLast? = some y := by rw [ho]; simp
                    have hdl : p.opn.dropLast = init := by rw [ho]; simp
                    have hco : init.length + 1 ≤ co := by
                      rcases (HROW.out w (Below.refl _ w)).2 with ⟨e1, _⟩ | ⟨_, cap, cur, e1, _, _, e4, _⟩
                      · cases e1
                      · cases e1; exact e4
                    have hyx : (y.toList == x.toList) = true → y = x := fun hh => by
                      have h1 := eq_of_beq hh
                      rw [ByteArray.toList_eq, ByteArray.toList_eq] at h1
                      apply ByteArray.ext
                      exact Array.ext' h1
                    have hxy : y = x → (y.toList == x.toList) = true := fun hh => by rw [hh]; exact beq_self_eq_true _
                    have hnl : init.length ≤ 100000 := by have := HSM.out; omega
                    clear hlast ho hln
                    generalize hnn : init.length = n at *
                    cases hyy : (y.toList == x.toList) with
                    | false =>
                      have HE := Lib.hid (hno (fun hh => by
                        have h1 := hh.2.2
                        rw [hgl] at h1
                        rw [hxy (Option.some.inj h1)] at hyy
                        cases hyy))
                      clear hno hok hR hyx hxy hgl hdl
                      unfold tellV
                      go_enter Tryd.func28, Tryd.ntmps28
                      go_wp2_with fail
                      go_at_call 30
                      with_reducible refine (HC.out _ J0).mono ?_
                      rintro e w1 ⟨rfl, J1⟩
                      go_wp2_with fail
                      go_at_call 27
                      with_reducible refine (must_ok _ _).mono ?_
                      rintro e wm ⟨rfl, hw⟩
                      obtain rfl := hw.symm
                      go_wp2_with fail
                      go_at_call 32
                      with_reducible refine (HX.out _ J1).mono ?_
                      rintro e w2 ⟨rfl, J2⟩
                      have x4 := HBG.out _ J2
                      go_wp2_with fail
                      go_at_call 35
                      with_reducible refine (HP1.out _ J2).mono ?_
                      rintro e w5 ⟨rfl, J5⟩
                      go_wp2_with fail
                      go_at_call 35
                      with_reducible refine (HP2.out _ J5).mono ?_
                      rintro e w6 ⟨rfl, J6⟩
                      go_wp2_with fail
                      go_at_call 27
                      with_reducible refine (must_ok _ _).mono ?_
                      rintro e wm ⟨rfl, hw⟩
                      obtain rfl := hw.symm
                      go_wp2_with fail
                      go_at_call 32
                      with_reducible refine (HCE.out _ J6).mono ?_
                      rintro e w7 ⟨rfl, J7⟩
                      go_wp2_with fail
                      go_at_call 36
                      with_reducible refine (HN.out _ J7).mono ?_
                      rintro e w8 ⟨rfl, J8⟩
                      have x2 := HX2.out _ J8
                      go_wp2_with fail
                      go_at_call 31
                      with_reducible refine (HSP.out _ J8).mono ?_
                      rintro e w9 ⟨rfl, J9⟩
                      have y2 := HX2.out _ J9
                      have y3 := HLAST.out _ J9
                      go_wp2_with fail
                      go_at_call 27
                      with_reducible refine (must_no 6 _).mono ?_
                      rintro e wm ⟨rfl, hw⟩
                      obtain rfl := hw.symm
                      go_wp2_with fail
                      exact ⟨rfl, EndsB.err HE.out J9⟩
                    | true =>
                      have HE := Lib.hid (hok ⟨hnm, hsp, by rw [hgl, hyx hyy]⟩)
                      rw [hdl] at HE
                      have b1 : (0 : Int) ≤ (n : Int) := by omega
                      have b2 : (n : Int) ≤ (co : Int) := by omega
                      have hT : ∀ W, Below w.heap.size w W → Calls Tryd.prog 21 #[.slice (some ⟨W.heap.size, 0, none⟩) 1 1, pt C] ((W.setCell ⟨A, 2, none⟩ (.slice (some ⟨g, 0, none⟩) n co)).alloc (.cells #[.int .u8 2, .string x, .slice none 0 0, .string ⟨#[]⟩] 34)) fun o w' => o = .returned (.tuple #[]) ∧
                          ∃ vo2 v2 cells2, Inv w' base bt A C { p with opn := init } (ts ++ [⟨2, x, [], ⟨#[]⟩⟩]) vw vo2 v2 cells2 ∧ Fr A base bt w w' := fun W hW => by
                        have hrow := row_take (HROW.out W hW) n (by omega)
                        rw [Nat.mul_one, List.map_append, List.take_left' (by rw [List.length_map, hnn])] at hrow
                        have hI := (HI.out.below hW).setOpn (.slice (some ⟨g, 0, none⟩) n co) init (by rw [hnn]; exact hrow)
                        have hsz : (W.setCell ⟨A, 2, none⟩ (.slice (some ⟨g, 0, none⟩) n co)).heap.size = W.heap.size := by simp [World.setCell]
                        have hT1 := tellI hI 2 2 rfl x ⟨#[]⟩ [] (.slice none 0 0) (World.ownsRow_nil _ _ _ _) (by rw [hsz]; exact Nat.le_trans hb hW.size) (by omega)
                        rw [hsz] at hT1
                        refine hT1.mono ?_
                        rintro o w' ⟨h1, v1, cs, h2, h3⟩
                        exact ⟨h1, _, v1, cs, h2, ((Fr.below hW).trans (Fr.setA A base bt 2 _ W)).trans h3⟩
                      have HT := Lib.hid hT
                      clear hno hok hR hyx hxy hgl hdl hT
                      unfold tellV
                      go_enter Tryd.func28, Tryd.ntmps28
                      go_wp2_with fail
                      go_at_call 30
                      with_reducible refine (HC.out _ J0).mono ?_
                      rintro e w1 ⟨rfl, J1⟩
                      go_wp2_with fail
                      go_at_call 27
                      with_reducible refine (must_ok _ _).mono ?_
                      rintro e wm ⟨rfl, hw⟩
                      obtain rfl := hw.symm
                      go_wp2_with fail
                      go_at_call 32
                      with_reducible refine (HX.out _ J1).mono ?_
                      rintro e w2 ⟨rfl, J2⟩
                      have x4 := HBG.out _ J2
                      go_wp2_with fail
                      go_at_call 35
                      with_reducible refine (HP1.out _ J2).mono ?_
                      rintro e w5 ⟨rfl, J5⟩
                      go_wp2_with fail
                      go_at_call 35
                      with_reducible refine (HP2.out _ J5).mono ?_
                      rintro e w6 ⟨rfl, J6⟩
                      go_wp2_with fail
                      go_at_call 27
                      with_reducible refine (must_ok _ _).mono ?_
                      rintro e wm ⟨rfl, hw⟩
                      obtain rfl := hw.symm
                      go_wp2_with fail
                      go_at_call 32
                      with_reducible refine (HCE.out _ J6).mono ?_
                      rintro e w7 ⟨rfl, J7⟩
                      go_wp2_with fail
                      go_at_call 36
                      with_reducible refine (HN.out _ J7).mono ?_
                      rintro e w8 ⟨rfl, J8⟩
                      have x2 := HX2.out _ J8
                      go_wp2_with fail
                      go_at_call 31
                      with_reducible refine (HSP.out _ J8).mono ?_
                      rintro e w9 ⟨rfl, J9⟩
                      have y2 := HX2.out _ J9
                      have y3 := HLAST.out _ J9
                      have f2 := (HI.out.below J9).box.f 2
                      go_wp2_with fail
                      go_at_call 27
                      with_reducible refine (must_ok _ _).mono ?_
                      rintro e wm ⟨rfl, hw⟩
                      obtain rfl := hw.symm
                      go_wp2_with fail
                      with_reducible refine (HT.out _ J9).mono ?_
                      rintro e w10 ⟨rfl, hQ⟩
                      have HQ := Lib.hid hQ
                      clear hQ
                      go_wp2_with fail
                      go_returns
                      obtain ⟨vo2, v2, cells2, h1, h2⟩ := HQ.out
                      exact EndsB.good HE.out h1 h2
      | false =>
        rw [hbg] at HBG hdB
        by_cases hk : 0 < k
        · have ck : decide (0 < k) = true := by simpa using hk
          cases sf with
          | false =>
            have hdB : dB = false := by rw [hdB]; simp
            have HD := Lib.hid hdB
            clear hdB
            cases hb1 : preB i ⟨#[33]⟩ with
            | true =>
              rw [hb1] at HP1
              have HE := Lib.hid (HBAR.out HD.out (.inl hb1))
              unfold tellV
              go_enter Tryd.func28, Tryd.ntmps28
              go_wp2_with fail
              go_at_call 30
              with_reducible refine (HC.out _ J0).mono ?_
              rintro e w1 ⟨rfl, J1⟩
              go_wp2_with fail
              go_at_call 27
              with_reducible refine (must_ok _ _).mono ?_
              rintro e wm ⟨rfl, hw⟩
              obtain rfl := hw.symm
              go_wp2_with fail
              go_at_call 32
              with_reducible refine (HX.out _ J1).mono ?_
              rintro e w2 ⟨rfl, J2⟩
              have x4 := HBG.out _ J2
              go_wp2_with fail
              go_at_call 33
              with_reducible refine (HL.out _ J2).mono ?_
              rintro e w3 ⟨rfl, J3⟩
              go_wp2_with fail
              go_at_call 34
              with_reducible refine (HSF.out _ J3).mono ?_
              rintro e w4 ⟨rfl, J4⟩
              go_wp2_with fail
              go_at_call 35
              with_reducible refine (HP1.out _ J4).mono ?_
              rintro e w5 ⟨rfl, J5⟩
              go_wp2_with fail
              go_at_call 27
              with_reducible refine (must_no 7 _).mono ?_
              rintro e wm ⟨rfl, hw⟩
              obtain rfl := hw.symm
              go_wp2_with fail
              exact ⟨rfl, EndsB.err HE.out J5⟩
            | false =>
              rw [hb1] at HP1
              cases hb2 : preB i ⟨#[63]⟩ with
              | true =>
                rw [hb2] at HP2
                have HE := Lib.hid (HBAR.out HD.out (.inr hb2))
                unfold tellV
                go_enter Tryd.func28, Tryd.ntmps28
                go_wp2_with fail
                go_at_call 30
                with_reducible refine (HC.out _ J0).mono ?_
                rintro e w1 ⟨rfl, J1⟩
                go_wp2_with fail
                go_at_call 27
                with_reducible refine (must_ok _ _).mono ?_
                rintro e wm ⟨rfl, hw⟩
                obtain rfl := hw.symm
                go_wp2_with fail
                go_at_call 32
                with_reducible refine (HX.out _ J1).mono ?_
                rintro e w2 ⟨rfl, J2⟩
                have x4 := HBG.out _ J2
                go_wp2_with fail
                go_at_call 33
                with_reducible refine (HL.out _ J2).mono ?_
                rintro e w3 ⟨rfl, J3⟩
                go_wp2_with fail
                go_at_call 34
                with_reducible refine (HSF.out _ J3).mono ?_
                rintro e w4 ⟨rfl, J4⟩
                go_wp2_with fail
                go_at_call 35
                with_reducible refine (HP1.out _ J4).mono ?_
                rintro e w5 ⟨rfl, J5⟩
                go_wp2_with fail
                go_at_call 35
                with_reducible refine (HP2.out _ J5).mono ?_
                rintro e w6 ⟨rfl, J6⟩
                go_wp2_with fail
                go_at_call 27
                with_reducible refine (must_no 7 _).mono ?_
                rintro e wm ⟨rfl, hw⟩
                obtain rfl := hw.symm
                go_wp2_with fail
                exact ⟨rfl, EndsB.err HE.out J6⟩
              | false =>
                rw [hb2] at HP2
                have hEN := HEND.out HD.out hb1 hb2
                have hBG := HBEG.out HD.out hb1 hb2
                have hcs : (cutPre i ⟨#[47]⟩).1.size ≤ i.size := by
                  unfold cutPre
                  split
                  · exact extract_le _ _ _
                  · exact Nat.le_refl _
                generalize (cutPre i ⟨#[47]⟩).1 = ca at HCE hEN hcs
                generalize (cutPre i ⟨#[47]⟩).2 = cb at HCE hEN hBG
                cases cb with
                | false =>
                  have HR := Lib.hid (hBG rfl)
                  have HBE := Lib.hid (fun W (hW : Below w.heap.size w W) => begin_any base bt A C p ts vw vo vout cells i W (HI.out.below hW) (by omega) (Nat.le_trans hb hW.size) hn)
                  clear hBG hEN
                  unfold tellV
                  go_enter Tryd.func28, Tryd.ntmps28
                  go_wp2_with fail
                  go_at_call 30
                  with_reducible refine (HC.out _ J0).mono ?_
                  rintro e w1 ⟨rfl, J1⟩
                  go_wp2_with fail
                  go_at_call 27
                  with_reducible refine (must_ok _ _).mono ?_
                  rintro e wm ⟨rfl, hw⟩
                  obtain rfl := hw.symm
                  go_wp2_with fail
                  go_at_call 32
                  with_reducible refine (HX.out _ J1).mono ?_
                  rintro e w2 ⟨rfl, J2⟩
                  have x4 := HBG.out _ J2
                  go_wp2_with fail
                  go_at_call 33
                  with_reducible refine (HL.out _ J2).mono ?_
                  rintro e w3 ⟨rfl, J3⟩
                  go_wp2_with fail
                  go_at_call 34
                  with_reducible refine (HSF.out _ J3).mono ?_
                  rintro e w4 ⟨rfl, J4⟩
                  go_wp2_with fail
                  go_at_call 35
                  with_reducible refine (HP1.out _ J4).mono ?_
                  rintro e w5 ⟨rfl, J5⟩
                  go_wp2_with fail
                  go_at_call 35
                  with_reducible refine (HP2.out _ J5).mono ?_
                  rintro e w6 ⟨rfl, J6⟩
                  go_wp2_with fail
                  go_at_call 27
                  with_reducible refine (must_ok _ _).mono ?_
                  rintro e wm ⟨rfl, hw⟩
                  obtain rfl := hw.symm
                  go_wp2_with fail
                  go_at_call 32
                  with_reducible refine (HCE.out _ J6).mono ?_
                  rintro e w7 ⟨rfl, J7⟩
                  go_wp2_with fail
                  refine (HBE.out _ J7).mono ?_
                  intro o w8 hQ
                  have HQ := Lib.hid hQ
                  clear hQ
                  obtain ⟨hq1⟩ | ⟨hq1⟩ := EndsB.cases HQ.out HR.out J7
                  · obtain ⟨ke, rfl, hq2⟩ := hq1
                    unfold panic1
                    go_wp2_with fail
                    exact ⟨rfl, hq2⟩
                  · obtain ⟨rfl, hq2⟩ := hq1
                    go_wp2_with fail
                    go_returns
                    exact hq2
                | true =>
                  have hR := hEN rfl
                  clear hBG hEN
                  cases hnm : nameOk ca with
                  | false =>
                    have HN := Lib.hid (nameNo w ca (by omega) hnm)
                    have HE := Lib.hid (hR.trans (endP_no (fun hh => by rw [hnm] at hh; cases hh.1)))
                    clear hR
                    unfold tellV
                    go_enter Tryd.func28, Tryd.ntmps28
                    go_wp2_with fail
                    go_at_call 30
                    with_reducible refine (HC.out _ J0).mono ?_
                    rintro e w1 ⟨rfl, J1⟩
                    go_wp2_with fail
                    go_at_call 27
                    with_reducible refine (must_ok _ _).mono ?_
                    rintro e wm ⟨rfl, hw⟩
                    obtain rfl := hw.symm
                    go_wp2_with fail
                    go_at_call 32
                    with_reducible refine (HX.out _ J1).mono ?_
                    rintro e w2 ⟨rfl, J2⟩
                    have x4 := HBG.out _ J2
                    go_wp2_with fail
                    go_at_call 33
                    with_reducible refine (HL.out _ J2).mono ?_
                    rintro e w3 ⟨rfl, J3⟩
                    go_wp2_with fail
                    go_at_call 34
                    with_reducible refine (HSF.out _ J3).mono ?_
                    rintro e w4 ⟨rfl, J4⟩
                    go_wp2_with fail
                    go_at_call 35
                    with_reducible refine (HP1.out _ J4).mono ?_
                    rintro e w5 ⟨rfl, J5⟩
                    go_wp2_with fail
                    go_at_call 35
                    with_reducible refine (HP2.out _ J5).mono ?_
                    rintro e w6 ⟨rfl, J6⟩
                    go_wp2_with fail
                    go_at_call 27
                    with_reducible refine (must_ok _ _).mono ?_
                    rintro e wm ⟨rfl, hw⟩
                    obtain rfl := hw.symm
                    go_wp2_with fail
                    go_at_call 32
                    with_reducible refine (HCE.out _ J6).mono ?_
                    rintro e w7 ⟨rfl, J7⟩
                    go_wp2_with fail
                    go_at_call 36
                    with_reducible refine (HN.out _ J7).mono ?_
                    rintro e w8 ⟨rfl, J8⟩
                    go_wp2_with fail
                    exact ⟨rfl, EndsB.err HE.out J8⟩
                  | true =>
                    have HN := Lib.hid (nameC w ca (by omega) hnm)
                    have hrs := extract_le ca (nameLen ca.data.toList) ca.size
                    have hno := fun hh => hR.trans (endP_no (p := p) (a := ca) hh)
                    have hok := fun hh => hR.trans (endP_ok (p := p) (a := ca) hh)
                    generalize ca.extract (nameLen ca.data.toList) ca.size = rs at HN hrs hno hok
                    generalize ca.extract 0 (nameLen ca.data.toList) = x at HN hno hok
                    have HSP := Lib.hid (spaceC w rs (by omega))
                    obtain ⟨go, co, hvo⟩ := row_slice HI.out.opn
                    subst hvo
                    have HX2 := Lib.hid (show ∀ W, Below w.heap.size w W → W.cell? ⟨A, 2, none⟩ = some (.slice go p.opn.length co) from fun W hW => (HI.out.below hW).box.cell 2)
                    cases hsp : space rs.data.toList with
                    | false =>
                      rw [hsp] at HSP
                      have HE := Lib.hid (hno (fun hh => by rw [hsp] at hh; cases hh.2.1))
                      clear hno hok hR
                      generalize p.opn.length = d at HX2
                      unfold tellV
                      go_enter Tryd.func28, Tryd.ntmps28
                      go_wp2_with fail
                      go_at_call 30
                      with_reducible refine (HC.out _ J0).mono ?_
                      rintro e w1 ⟨rfl, J1⟩
                      go_wp2_with fail
                      go_at_call 27
                      with_reducible refine (must_ok _ _).mono ?_
                      rintro e wm ⟨rfl, hw⟩
                      obtain rfl := hw.symm
                      go_wp2_with fail
                      go_at_call 32
                      with_reducible refine (HX.out _ J1).mono ?_
                      rintro e w2 ⟨rfl, J2⟩
                      have x4 := HBG.out _ J2
                      go_wp2_with fail
                      go_at_call 33
                      with_reducible refine (HL.out _ J2).mono ?_
                      rintro e w3 ⟨rfl, J3⟩
                      go_wp2_with fail
                      go_at_call 34
                      with_reducible refine (HSF.out _ J3).mono ?_
                      rintro e w4 ⟨rfl, J4⟩
                      go_wp2_with fail
                      go_at_call 35
                      with_reducible refine (HP1.out _ J4).mono ?_
                      rintro e w5 ⟨rfl, J5⟩
                      go_wp2_with fail
                      go_at_call 35
                      with_reducible refine (HP2.out _ J5).mono ?_
                      rintro e w6 ⟨rfl, J6⟩
                      go_wp2_with fail
                      go_at_call 27
                      with_reducible refine (must_ok _ _).mono ?_
                      rintro e wm ⟨rfl, hw⟩
                      obtain rfl := hw.symm
                      go_wp2_with fail
                      go_at_call 32
                      with_reducible refine (HCE.out _ J6).mono ?_
                      rintro e w7 ⟨rfl, J7⟩
                      go_wp2_with fail
                      go_at_call 36
                      with_reducible refine (HN.out _ J7).mono ?_
                      rintro e w8 ⟨rfl, J8⟩
                      have x2 := HX2.out _ J8
                      go_wp2_with fail
                      go_at_call 31
                      with_reducible refine (HSP.out _ J8).mono ?_
                      rintro e w9 ⟨rfl, J9⟩
                      go_wp2_with fail
                      go_at_call 27
                      with_reducible refine (must_no 6 _).mono ?_
                      rintro e wm ⟨rfl, hw⟩
                      obtain rfl := hw.symm
                      go_wp2_with fail
                      exact ⟨rfl, EndsB.err HE.out J9⟩
                    | true =>
                      rw [hsp] at HSP
                      rcases List.eq_nil_or_concat p.opn with ho | ⟨init, y, ho⟩
                      · have HE := Lib.hid (hno (fun hh => by rw [ho] at hh; cases hh.2.2))
                        have hl0 : p.opn.length = 0 := by rw [ho]; rfl
                        rw [hl0] at HX2
                        have cd : decide ((0 : Nat) < 0) = false := rfl
                        clear hno hok hR
                        unfold tellV
                        go_enter Tryd.func28, Tryd.ntmps28
                        go_wp2_with fail
                        go_at_call 30
                        with_reducible refine (HC.out _ J0).mono ?_
                        rintro e w1 ⟨rfl, J1⟩
                        go_wp2_with fail
                        go_at_call 27
                        with_reducible refine (must_ok _ _).mono ?_
                        rintro e wm ⟨rfl, hw⟩
                        obtain rfl := hw.symm
                        go_wp2_with fail
                        go_at_call 32
                        with_reducible refine (HX.out _ J1).mono ?_
                        rintro e w2 ⟨rfl, J2⟩
                        have x4 := HBG.out _ J2
                        go_wp2_with fail
                        go_at_call 33
                        with_reducible refine (HL.out _ J2).mono ?_
                        rintro e w3 ⟨rfl, J3⟩
                        go_wp2_with fail
                        go_at_call 34
                        with_reducible refine (HSF.out _ J3).mono ?_
                        rintro e w4 ⟨rfl, J4⟩
                        go_wp2_with fail
                        go_at_call 35
                        with_reducible refine (HP1.out _ J4).mono ?_
                        rintro e w5 ⟨rfl, J5⟩
                        go_wp2_with fail
                        go_at_call 35
                        with_reducible refine (HP2.out _ J5).mono ?_
                        rintro e w6 ⟨rfl, J6⟩
                        go_wp2_with fail
                        go_at_call 27
                        with_reducible refine (must_ok _ _).mono ?_
                        rintro e wm ⟨rfl, hw⟩
                        obtain rfl := hw.symm
                        go_wp2_with fail
                        go_at_call 32
                        with_reducible refine (HCE.out _ J6).mono ?_
                        rintro e w7 ⟨rfl, J7⟩
                        go_wp2_with fail
                        go_at_call 36
                        with_reducible refine (HN.out _ J7).mono ?_
                        rintro e w8 ⟨rfl, J8⟩
                        have x2 := HX2.out _ J8
                        go_wp2_with fail
                        go_at_call 31
                        with_reducible refine (HSP.out _ J8).mono ?_
                        rintro e w9 ⟨rfl, J9⟩
                        go_wp2_with fail
                        go_at_call 27
                        with_reducible refine (must_no 6 _).mono ?_
                        rintro e wm ⟨rfl, hw⟩
                        obtain rfl := hw.symm
                        go_wp2_with fail
                        exact ⟨rfl, EndsB.err HE.out J9⟩
                      · rw [List.concat_eq_append] at ho
                        have hln : p.opn.length = init.length + 1 := by rw [ho, List.length_append]; rfl
                        rw [hln] at HX2
                        obtain ⟨g, hgo⟩ : ∃ g, go = some ⟨g, 0, none⟩ := by
                          rcases HI.out.opn.2 with ⟨_, e2⟩ | ⟨g, cap, cur, e1, _⟩
                          · rw [ho] at e2; simp at e2
                          · injection e1 with e1 _ _
                            exact ⟨g, e1⟩
                        subst hgo
                        have HROW := Lib.hid (show ∀ W, Below w.heap.size w W → W.ownsRow 0 9 1 (.slice (some ⟨g, 0, none⟩) (init.length + 1) co) (init.length + 1) ((init ++ [y]).map Value.string) from fun W hW => by
                          have := (HI.out.below hW).opn
                          rw [hln, ho] at this
                          exact this)
                        have hlast : ∀ W, Below w.heap.size w W → W.cell? ⟨g, init.length, none⟩ = some (.string y) := fun W hW => by
                          have h1 := World.ownsRow.cells (HROW.out W hW) (g := g) rfl init.length (.string y) (by simp)
                          have ha : (⟨g, 0, none⟩ : Addr).add init.length = ⟨g, init.length, none⟩ := by unfold Addr.add; split <;> simp_all
                          rwa [ha] at h1
                        have HLAST := Lib.hid hlast
                        have hgl : p.opn.getLast? = some y := by rw [ho]; simp
                        have hdl : p.opn.dropLast = init := by rw [ho]; simp
                        have hco : init.length + 1 ≤ co := by
                          rcases (HROW.out w (Below.refl _ w)).2 with ⟨e1, _⟩ | ⟨_, cap, cur, e1, _, _, e4, _⟩
                          · cases e1
                          · cases e1; exact e4
                        have hyx : (y.toList == x.toList) = true → y = x := fun hh => by
                          have h1 := eq_of_beq hh
                          rw [ByteArray.toList_eq, ByteArray.toList_eq] at h1
                          apply ByteArray.ext
                          exact Array.ext' h1
                        have hxy : y = x → (y.toList == x.toList) = true := fun hh => by rw [hh]; exact beq_self_eq_true _
                        have hnl : init.length ≤ 100000 := by have := HSM.out; omega
                        clear hlast ho hln
                        generalize hnn : init.length = n at *
                        cases hyy : (y.toList == x.toList) with
                        | false =>
                          have HE := Lib.hid (hno (fun hh => by
                            have h1 := hh.2.2
                            rw [hgl] at h1
                            rw [hxy (Option.some.inj h1)] at hyy
                            cases hyy))
                          clear hno hok hR hyx hxy hgl hdl
                          unfold tellV
                          go_enter Tryd.func28, Tryd.ntmps28
                          go_wp2_with fail
                          go_at_call 30
                          with_reducible refine (HC.out _ J0).mono ?_
                          rintro e w1 ⟨rfl, J1⟩
                          go_wp2_with fail
                          go_at_call 27
                          with_reducible refine (must_ok _ _).mono ?_
                          rintro e wm ⟨rfl, hw⟩
                          obtain rfl := hw.symm
                          go_wp2_with fail
                          go_at_call 32
                          with_reducible refine (HX.out _ J1).mono ?_
                          rintro e w2 ⟨rfl, J2⟩
                          have x4 := HBG.out _ J2
                          go_wp2_with fail
                          go_at_call 33
                          with_reducible refine (HL.out _ J2).mono ?_
                          rintro e w3 ⟨rfl, J3⟩
                          go_wp2_with fail
                          go_at_call 34
                          with_reducible refine (HSF.out _ J3).mono ?_
                          rintro e w4 ⟨rfl, J4⟩
                          go_wp2_with fail
                          go_at_call 35
                          with_reducible refine (HP1.out _ J4).mono ?_
                          rintro e w5 ⟨rfl, J5⟩
                          go_wp2_with fail
                          go_at_call 35
                          with_reducible refine (HP2.out _ J5).mono ?_
                          rintro e w6 ⟨rfl, J6⟩
                          go_wp2_with fail
                          go_at_call 27
                          with_reducible refine (must_ok _ _).mono ?_
                          rintro e wm ⟨rfl, hw⟩
                          obtain rfl := hw.symm
                          go_wp2_with fail
                          go_at_call 32
                          with_reducible refine (HCE.out _ J6).mono ?_
                          rintro e w7 ⟨rfl, J7⟩
                          go_wp2_with fail
                          go_at_call 36
                          with_reducible refine (HN.out _ J7).mono ?_
                          rintro e w8 ⟨rfl, J8⟩
                          have x2 := HX2.out _ J8
                          go_wp2_with fail
                          go_at_call 31
                          with_reducible refine (HSP.out _ J8).mono ?_
                          rintro e w9 ⟨rfl, J9⟩
                          have y2 := HX2.out _ J9
                          have y3 := HLAST.out _ J9
                          go_wp2_with fail
                          go_at_call 27
                          with_reducible refine (must_no 6 _).mono ?_
                          rintro e wm ⟨rfl, hw⟩
                          obtain rfl := hw.symm
                          go_wp2_with fail
                          exact ⟨rfl, EndsB.err HE.out J9⟩
                        | true =>
                          have HE := Lib.hid (hok ⟨hnm, hsp, by rw [hgl, hyx hyy]⟩)
                          rw [hdl] at HE
                          have b1 : (0 : Int) ≤ (n : Int) := by omega
                          have b2 : (n : Int) ≤ (co : Int) := by omega
                          have hT : ∀ W, Below w.heap.size w W → Calls Tryd.prog 21 #[.slice (some ⟨W.heap.size, 0, none⟩) 1 1, pt C] ((W.setCell ⟨A, 2, none⟩ (.slice (some ⟨g, 0, none⟩) n co)).alloc (.cells #[.int .u8 2, .string x, .slice none 0 0, .string ⟨#[]⟩] 34)) fun o w' => o = .returned (.tuple #[]) ∧
                              ∃ vo2 v2 cells2, Inv w' base bt A C { p with opn := init } (ts ++ [⟨2, x, [], ⟨#[]⟩⟩]) vw vo2 v2 cells2 ∧ Fr A base bt w w' := fun W hW => by
                            have hrow := row_take (HROW.out W hW) n (by omega)
                            rw [Nat.mul_one, List.map_append, List.take_left' (by rw [List.length_map, hnn])] at hrow
                            have hI := (HI.out.below hW).setOpn (.slice (some ⟨g, 0, none⟩) n co) init (by rw [hnn]; exact hrow)
                            have hsz : (W.setCell ⟨A, 2, none⟩ (.slice (some ⟨g, 0, none⟩) n co)).heap.size = W.heap.size := by simp [World.setCell]
                            have hT1 := tellI hI 2 2 rfl x ⟨#[]⟩ [] (.slice none 0 0) (World.ownsRow_nil _ _ _ _) (by rw [hsz]; exact Nat.le_trans hb hW.size) (by omega)
                            rw [hsz] at hT1
                            refine hT1.mono ?_
                            rintro o w' ⟨h1, v1, cs, h2, h3⟩
                            exact ⟨h1, _, v1, cs, h2, ((Fr.below hW).trans (Fr.setA A base bt 2 _ W)).trans h3⟩
                          have HT := Lib.hid hT
                          clear hno hok hR hyx hxy hgl hdl hT
                          unfold tellV
                          go_enter Tryd.func28, Tryd.ntmps28
                          go_wp2_with fail
                          go_at_call 30
                          with_reducible refine (HC.out _ J0).mono ?_
                          rintro e w1 ⟨rfl, J1⟩
                          go_wp2_with fail
                          go_at_call 27
                          with_reducible refine (must_ok _ _).mono ?_
                          rintro e wm ⟨rfl, hw⟩
                          obtain rfl := hw.symm
                          go_wp2_with fail
                          go_at_call 32
                          with_reducible refine (HX.out _ J1).mono ?_
                          rintro e w2 ⟨rfl, J2⟩
                          have x4 := HBG.out _ J2
                          go_wp2_with fail
                          go_at_call 33
                          with_reducible refine (HL.out _ J2).mono ?_
                          rintro e w3 ⟨rfl, J3⟩
                          go_wp2_with fail
                          go_at_call 34
                          with_reducible refine (HSF.out _ J3).mono ?_
                          rintro e w4 ⟨rfl, J4⟩
                          go_wp2_with fail
                          go_at_call 35
                          with_reducible refine (HP1.out _ J4).mono ?_
                          rintro e w5 ⟨rfl, J5⟩
                          go_wp2_with fail
                          go_at_call 35
                          with_reducible refine (HP2.out _ J5).mono ?_
                          rintro e w6 ⟨rfl, J6⟩
                          go_wp2_with fail
                          go_at_call 27
                          with_reducible refine (must_ok _ _).mono ?_
                          rintro e wm ⟨rfl, hw⟩
                          obtain rfl := hw.symm
                          go_wp2_with fail
                          go_at_call 32
                          with_reducible refine (HCE.out _ J6).mono ?_
                          rintro e w7 ⟨rfl, J7⟩
                          go_wp2_with fail
                          go_at_call 36
                          with_reducible refine (HN.out _ J7).mono ?_
                          rintro e w8 ⟨rfl, J8⟩
                          have x2 := HX2.out _ J8
                          go_wp2_with fail
                          go_at_call 31
                          with_reducible refine (HSP.out _ J8).mono ?_
                          rintro e w9 ⟨rfl, J9⟩
                          have y2 := HX2.out _ J9
                          have y3 := HLAST.out _ J9
                          have f2 := (HI.out.below J9).box.f 2
                          go_wp2_with fail
                          go_at_call 27
                          with_reducible refine (must_ok _ _).mono ?_
                          rintro e wm ⟨rfl, hw⟩
                          obtain rfl := hw.symm
                          go_wp2_with fail
                          with_reducible refine (HT.out _ J9).mono ?_
                          rintro e w10 ⟨rfl, hQ⟩
                          have HQ := Lib.hid hQ
                          clear hQ
                          go_wp2_with fail
                          go_returns
                          obtain ⟨vo2, v2, cells2, h1, h2⟩ := HQ.out
                          exact EndsB.good HE.out h1 h2
          | true =>
            have hdB : dB = true := by rw [hdB, ck]; rfl
            have HE := Lib.hid (HDEC.out hdB)
            clear hdB
            unfold tellV
            go_enter Tryd.func28, Tryd.ntmps28
            go_wp2_with fail
            go_at_call 30
            with_reducible refine (HC.out _ J0).mono ?_
            rintro e w1 ⟨rfl, J1⟩
            go_wp2_with fail
            go_at_call 27
            with_reducible refine (must_ok _ _).mono ?_
            rintro e wm ⟨rfl, hw⟩
            obtain rfl := hw.symm
            go_wp2_with fail
            go_at_call 32
            with_reducible refine (HX.out _ J1).mono ?_
            rintro e w2 ⟨rfl, J2⟩
            have x4 := HBG.out _ J2
            go_wp2_with fail
            go_at_call 33
            with_reducible refine (HL.out _ J2).mono ?_
            rintro e w3 ⟨rfl, J3⟩
            go_wp2_with fail
            go_at_call 34
            with_reducible refine (HSF.out _ J3).mono ?_
            rintro e w4 ⟨rfl, J4⟩
            go_wp2_with fail
            go_returns
            refine EndsB.good (vo' := vo) (vout' := vout) (cells' := cells) HE.out ?_ (Fr.below J4)
            rw [List.append_nil]
            exact HI.out.below J4
        · have ck : decide (0 < k) = false := by simpa using hk
          have hdB : dB = false := by rw [hdB, ck]; simp
          have HD := Lib.hid hdB
          clear hdB
          cases hb1 : preB i ⟨#[33]⟩ with
          | true =>
            rw [hb1] at HP1
            have HE := Lib.hid (HBAR.out HD.out (.inl hb1))
            unfold tellV
            go_enter Tryd.func28, Tryd.ntmps28
            go_wp2_with fail
            go_at_call 30
            with_reducible refine (HC.out _ J0).mono ?_
            rintro e w1 ⟨rfl, J1⟩
            go_wp2_with fail
            go_at_call 27
            with_reducible refine (must_ok _ _).mono ?_
            rintro e wm ⟨rfl, hw⟩
            obtain rfl := hw.symm
            go_wp2_with fail
            go_at_call 32
            with_reducible refine (HX.out _ J1).mono ?_
            rintro e w2 ⟨rfl, J2⟩
            have x4 := HBG.out _ J2
            go_wp2_with fail
            go_at_call 33
            with_reducible refine (HL.out _ J2).mono ?_
            rintro e w3 ⟨rfl, J3⟩
            go_wp2_with fail
            go_at_call 35
            with_reducible refine (HP1.out _ J3).mono ?_
            rintro e w5 ⟨rfl, J5⟩
            go_wp2_with fail
            go_at_call 27
            with_reducible refine (must_no 7 _).mono ?_
            rintro e wm ⟨rfl, hw⟩
            obtain rfl := hw.symm
            go_wp2_with fail
            exact ⟨rfl, EndsB.err HE.out J5⟩
          | false =>
            rw [hb1] at HP1
            cases hb2 : preB i ⟨#[63]⟩ with
            | true =>
              rw [hb2] at HP2
              have HE := Lib.hid (HBAR.out HD.out (.inr hb2))
              unfold tellV
              go_enter Tryd.func28, Tryd.ntmps28
              go_wp2_with fail
              go_at_call 30
              with_reducible refine (HC.out _ J0).mono ?_
              rintro e w1 ⟨rfl, J1⟩
              go_wp2_with fail
              go_at_call 27
              with_reducible refine (must_ok _ _).mono ?_
              rintro e wm ⟨rfl, hw⟩
              obtain rfl := hw.symm
              go_wp2_with fail
              go_at_call 32
              with_reducible refine (HX.out _ J1).mono ?_
              rintro e w2 ⟨rfl, J2⟩
              have x4 := HBG.out _ J2
              go_wp2_with fail
              go_at_call 33
              with_reducible refine (HL.out _ J2).mono ?_
              rintro e w3 ⟨rfl, J3⟩
              go_wp2_with fail
              go_at_call 35
              with_reducible refine (HP1.out _ J3).mono ?_
              rintro e w5 ⟨rfl, J5⟩
              go_wp2_with fail
              go_at_call 35
              with_reducible refine (HP2.out _ J5).mono ?_
              rintro e w6 ⟨rfl, J6⟩
              go_wp2_with fail
              go_at_call 27
              with_reducible refine (must_no 7 _).mono ?_
              rintro e wm ⟨rfl, hw⟩
              obtain rfl := hw.symm
              go_wp2_with fail
              exact ⟨rfl, EndsB.err HE.out J6⟩
            | false =>
              rw [hb2] at HP2
              have hEN := HEND.out HD.out hb1 hb2
              have hBG := HBEG.out HD.out hb1 hb2
              have hcs : (cutPre i ⟨#[47]⟩).1.size ≤ i.size := by
                unfold cutPre
                split
                · exact extract_le _ _ _
                · exact Nat.le_refl _
              generalize (cutPre i ⟨#[47]⟩).1 = ca at HCE hEN hcs
              generalize (cutPre i ⟨#[47]⟩).2 = cb at HCE hEN hBG
              cases cb with
              | false =>
                have HR := Lib.hid (hBG rfl)
                have HBE := Lib.hid (fun W (hW : Below w.heap.size w W) => begin_any base bt A C p ts vw vo vout cells i W (HI.out.below hW) (by omega) (Nat.le_trans hb hW.size) hn)
                clear hBG hEN
                unfold tellV
                go_enter Tryd.func28, Tryd.ntmps28
                go_wp2_with fail
                go_at_call 30
                with_reducible refine (HC.out _ J0).mono ?_
                rintro e w1 ⟨rfl, J1⟩
                go_wp2_with fail
                go_at_call 27
                with_reducible refine (must_ok _ _).mono ?_
                rintro e wm ⟨rfl, hw⟩
                obtain rfl := hw.symm
                go_wp2_with fail
                go_at_call 32
                with_reducible refine (HX.out _ J1).mono ?_
                rintro e w2 ⟨rfl, J2⟩
                have x4 := HBG.out _ J2
                go_wp2_with fail
                go_at_call 33
                with_reducible refine (HL.out _ J2).mono ?_
                rintro e w3 ⟨rfl, J3⟩
                go_wp2_with fail
                go_at_call 35
                with_reducible refine (HP1.out _ J3).mono ?_
                rintro e w5 ⟨rfl, J5⟩
                go_wp2_with fail
                go_at_call 35
                with_reducible refine (HP2.out _ J5).mono ?_
                rintro e w6 ⟨rfl, J6⟩
                go_wp2_with fail
                go_at_call 27
                with_reducible refine (must_ok _ _).mono ?_
                rintro e wm ⟨rfl, hw⟩
                obtain rfl := hw.symm
                go_wp2_with fail
                go_at_call 32
                with_reducible refine (HCE.out _ J6).mono ?_
                rintro e w7 ⟨rfl, J7⟩
                go_wp2_with fail
                refine (HBE.out _ J7).mono ?_
                intro o w8 hQ
                have HQ := Lib.hid hQ
                clear hQ
                obtain ⟨hq1⟩ | ⟨hq1⟩ := EndsB.cases HQ.out HR.out J7
                · obtain ⟨ke, rfl, hq2⟩ := hq1
                  unfold panic1
                  go_wp2_with fail
                  exact ⟨rfl, hq2⟩
                · obtain ⟨rfl, hq2⟩ := hq1
                  go_wp2_with fail
                  go_returns
                  exact hq2
              | true =>
                have hR := hEN rfl
                clear hBG hEN
                cases hnm : nameOk ca with
                | false =>
                  have HN := Lib.hid (nameNo w ca (by omega) hnm)
                  have HE := Lib.hid (hR.trans (endP_no (fun hh => by rw [hnm] at hh; cases hh.1)))
                  clear hR
                  unfold tellV
                  go_enter Tryd.func28, Tryd.ntmps28
                  go_wp2_with fail
                  go_at_call 30
                  with_reducible refine (HC.out _ J0).mono ?_
                  rintro e w1 ⟨rfl, J1⟩
                  go_wp2_with fail
                  go_at_call 27
                  with_reducible refine (must_ok _ _).mono ?_
                  rintro e wm ⟨rfl, hw⟩
                  obtain rfl := hw.symm
                  go_wp2_with fail
                  go_at_call 32
                  with_reducible refine (HX.out _ J1).mono ?_
                  rintro e w2 ⟨rfl, J2⟩
                  have x4 := HBG.out _ J2
                  go_wp2_with fail
                  go_at_call 33
                  with_reducible refine (HL.out _ J2).mono ?_
                  rintro e w3 ⟨rfl, J3⟩
                  go_wp2_with fail
                  go_at_call 35
                  with_reducible refine (HP1.out _ J3).mono ?_
                  rintro e w5 ⟨rfl, J5⟩
                  go_wp2_with fail
                  go_at_call 35
                  with_reducible refine (HP2.out _ J5).mono ?_
                  rintro e w6 ⟨rfl, J6⟩
                  go_wp2_with fail
                  go_at_call 27
                  with_reducible refine (must_ok _ _).mono ?_
                  rintro e wm ⟨rfl, hw⟩
                  obtain rfl := hw.symm
                  go_wp2_with fail
                  go_at_call 32
                  with_reducible refine (HCE.out _ J6).mono ?_
                  rintro e w7 ⟨rfl, J7⟩
                  go_wp2_with fail
                  go_at_call 36
                  with_reducible refine (HN.out _ J7).mono ?_
                  rintro e w8 ⟨rfl, J8⟩
                  go_wp2_with fail
                  exact ⟨rfl, EndsB.err HE.out J8⟩
                | true =>
                  have HN := Lib.hid (nameC w ca (by omega) hnm)
                  have hrs := extract_le ca (nameLen ca.data.toList) ca.size
                  have hno := fun hh => hR.trans (endP_no (p := p) (a := ca) hh)
                  have hok := fun hh => hR.trans (endP_ok (p := p) (a := ca) hh)
                  generalize ca.extract (nameLen ca.data.toList) ca.size = rs at HN hrs hno hok
                  generalize ca.extract 0 (nameLen ca.data.toList) = x at HN hno hok
                  have HSP := Lib.hid (spaceC w rs (by omega))
                  obtain ⟨go, co, hvo⟩ := row_slice HI.out.opn
                  subst hvo
                  have HX2 := Lib.hid (show ∀ W, Below w.heap.size w W → W.cell? ⟨A, 2, none⟩ = some (.slice go p.opn.length co) from fun W hW => (HI.out.below hW).box.cell 2)
                  cases hsp : space rs.data.toList with
                  | false =>
                    rw [hsp] at HSP
                    have HE := Lib.hid (hno (fun hh => by rw [hsp] at hh; cases hh.2.1))
                    clear hno hok hR
                    generalize p.opn.length = d at HX2
                    unfold tellV
                    go_enter Tryd.func28, Tryd.ntmps28
                    go_wp2_with fail
                    go_at_call 30
                    with_reducible refine (HC.out _ J0).mono ?_
                    rintro e w1 ⟨rfl, J1⟩
                    go_wp2_with fail
                    go_at_call 27
                    with_reducible refine (must_ok _ _).mono ?_
                    rintro e wm ⟨rfl, hw⟩
                    obtain rfl := hw.symm
                    go_wp2_with fail
                    go_at_call 32
                    with_reducible refine (HX.out _ J1).mono ?_
                    rintro e w2 ⟨rfl, J2⟩
                    have x4 := HBG.out _ J2
                    go_wp2_with fail
                    go_at_call 33
                    with_reducible refine (HL.out _ J2).mono ?_
                    rintro e w3 ⟨rfl, J3⟩
                    go_wp2_with fail
                    go_at_call 35
                    with_reducible refine (HP1.out _ J3).mono ?_
                    rintro e w5 ⟨rfl, J5⟩
                    go_wp2_with fail
                    go_at_call 35
                    with_reducible refine (HP2.out _ J5).mono ?_
                    rintro e w6 ⟨rfl, J6⟩
                    go_wp2_with fail
                    go_at_call 27
                    with_reducible refine (must_ok _ _).mono ?_
                    rintro e wm ⟨rfl, hw⟩
                    obtain rfl := hw.symm
                    go_wp2_with fail
                    go_at_call 32
                    with_reducible refine (HCE.out _ J6).mono ?_
                    rintro e w7 ⟨rfl, J7⟩
                    go_wp2_with fail
                    go_at_call 36
                    with_reducible refine (HN.out _ J7).mono ?_
                    rintro e w8 ⟨rfl, J8⟩
                    have x2 := HX2.out _ J8
                    go_wp2_with fail
                    go_at_call 31
                    with_reducible refine (HSP.out _ J8).mono ?_
                    rintro e w9 ⟨rfl, J9⟩
                    go_wp2_with fail
                    go_at_call 27
                    with_reducible refine (must_no 6 _).mono ?_
                    rintro e wm ⟨rfl, hw⟩
                    obtain rfl := hw.symm
                    go_wp2_with fail
                    exact ⟨rfl, EndsB.err HE.out J9⟩
                  | true =>
                    rw [hsp] at HSP
                    rcases List.eq_nil_or_concat p.opn with ho | ⟨init, y, ho⟩
                    · have HE := Lib.hid (hno (fun hh => by rw [ho] at hh; cases hh.2.2))
                      have hl0 : p.opn.length = 0 := by rw [ho]; rfl
                      rw [hl0] at HX2
                      have cd : decide ((0 : Nat) < 0) = false := rfl
                      clear hno hok hR
                      unfold tellV
                      go_enter Tryd.func28, Tryd.ntmps28
                      go_wp2_with fail
                      go_at_call 30
                      with_reducible refine (HC.out _ J0).mono ?_
                      rintro e w1 ⟨rfl, J1⟩
                      go_wp2_with fail
                      go_at_call 27
                      with_reducible refine (must_ok _ _).mono ?_
                      rintro e wm ⟨rfl, hw⟩
                      obtain rfl := hw.symm
                      go_wp2_with fail
                      go_at_call 32
                      with_reducible refine (HX.out _ J1).mono ?_
                      rintro e w2 ⟨rfl, J2⟩
                      have x4 := HBG.out _ J2
                      go_wp2_with fail
                      go_at_call 33
                      with_reducible refine (HL.out _ J2).mono ?_
                      rintro e w3 ⟨rfl, J3⟩
                      go_wp2_with fail
                      go_at_call 35
                      with_reducible refine (HP1.out _ J3).mono ?_
                      rintro e w5 ⟨rfl, J5⟩
                      go_wp2_with fail
                      go_at_call 35
                      with_reducible refine (HP2.out _ J5).mono ?_
                      rintro e w6 ⟨rfl, J6⟩
                      go_wp2_with fail
                      go_at_call 27
                      with_reducible refine (must_ok _ _).mono ?_
                      rintro e wm ⟨rfl, hw⟩
                      obtain rfl := hw.symm
                      go_wp2_with fail
                      go_at_call 32
                      with_reducible refine (HCE.out _ J6).mono ?_
                      rintro e w7 ⟨rfl, J7⟩
                      go_wp2_with fail
                      go_at_call 36
                      with_reducible refine (HN.out _ J7).mono ?_
                      rintro e w8 ⟨rfl, J8⟩
                      have x2 := HX2.out _ J8
                      go_wp2_with fail
                      go_at_call 31
                      with_reducible refine (HSP.out _ J8).mono ?_
                      rintro e w9 ⟨rfl, J9⟩
                      go_wp2_with fail
                      go_at_call 27
                      with_reducible refine (must_no 6 _).mono ?_
                      rintro e wm ⟨rfl, hw⟩
                      obtain rfl := hw.symm
                      go_wp2_with fail
                      exact ⟨rfl, EndsB.err HE.out J9⟩
                    · rw [List.concat_eq_append] at ho
                      have hln : p.opn.length = init.length + 1 := by rw [ho, List.length_append]; rfl
                      rw [hln] at HX2
                      obtain ⟨g, hgo⟩ : ∃ g, go = some ⟨g, 0, none⟩ := by
                        rcases HI.out.opn.2 with ⟨_, e2⟩ | ⟨g, cap, cur, e1, _⟩
                        · rw [ho] at e2; simp at e2
                        · injection e1 with e1 _ _
                          exact ⟨g, e1⟩
                      subst hgo
                      have HROW := Lib.hid (show ∀ W, Below w.heap.size w W → W.ownsRow 0 9 1 (.slice (some ⟨g, 0, none⟩) (init.length + 1) co) (init.length + 1) ((init ++ [y]).map Value.string) from fun W hW => by
                        have := (HI.out.below hW).opn
                        rw [hln, ho] at this
                        exact this)
                      have hlast : ∀ W, Below w.heap.size w W → W.cell? ⟨g, init.length, none⟩ = some (.string y) := fun W hW => by
                        have h1 := World.ownsRow.cells (HROW.out W hW) (g := g) rfl init.length (.string y) (by simp)
                        have ha : (⟨g, 0, none⟩ : Addr).add init.length = ⟨g, init.length, none⟩ := by unfold Addr.add; split <;> simp_all
                        rwa [ha] at h1
                      have HLAST := Lib.hid hlast
                      have hgl : p.opn.getLast? = some y := by rw [ho]; simp
                      have hdl : p.opn.dropLast = init := by rw [ho]; simp
                      have hco : init.length + 1 ≤ co := by
                        rcases (HROW.out w (Below.refl _ w)).2 with ⟨e1, _⟩ | ⟨_, cap, cur, e1, _, _, e4, _⟩
                        · cases e1
                        · cases e1; exact e4
                      have hyx : (y.toList == x.toList) = true → y = x := fun hh => by
                        have h1 := eq_of_beq hh
                        rw [ByteArray.toList_eq, ByteArray.toList_eq] at h1
                        apply ByteArray.ext
                        exact Array.ext' h1
                      have hxy : y = x → (y.toList == x.toList) = true := fun hh => by rw [hh]; exact beq_self_eq_true _
                      have hnl : init.length ≤ 100000 := by have := HSM.out; omega
                      clear hlast ho hln
                      generalize hnn : init.length = n at *
                      cases hyy : (y.toList == x.toList) with
                      | false =>
                        have HE := Lib.hid (hno (fun hh => by
                          have h1 := hh.2.2
                          rw [hgl] at h1
                          rw [hxy (Option.some.inj h1)] at hyy
                          cases hyy))
                        clear hno hok hR hyx hxy hgl hdl
                        unfold tellV
                        go_enter Tryd.func28, Tryd.ntmps28
                        go_wp2_with fail
                        go_at_call 30
                        with_reducible refine (HC.out _ J0).mono ?_
                        rintro e w1 ⟨rfl, J1⟩
                        go_wp2_with fail
                        go_at_call 27
                        with_reducible refine (must_ok _ _).mono ?_
                        rintro e wm ⟨rfl, hw⟩
                        obtain rfl := hw.symm
                        go_wp2_with fail
                        go_at_call 32
                        with_reducible refine (HX.out _ J1).mono ?_
                        rintro e w2 ⟨rfl, J2⟩
                        have x4 := HBG.out _ J2
                        go_wp2_with fail
                        go_at_call 33
                        with_reducible refine (HL.out _ J2).mono ?_
                        rintro e w3 ⟨rfl, J3⟩
                        go_wp2_with fail
                        go_at_call 35
                        with_reducible refine (HP1.out _ J3).mono ?_
                        rintro e w5 ⟨rfl, J5⟩
                        go_wp2_with fail
                        go_at_call 35
                        with_reducible refine (HP2.out _ J5).mono ?_
                        rintro e w6 ⟨rfl, J6⟩
                        go_wp2_with fail
                        go_at_call 27
                        with_reducible refine (must_ok _ _).mono ?_
                        rintro e wm ⟨rfl, hw⟩
                        obtain rfl := hw.symm
                        go_wp2_with fail
                        go_at_call 32
                        with_reducible refine (HCE.out _ J6).mono ?_
                        rintro e w7 ⟨rfl, J7⟩
                        go_wp2_with fail
                        go_at_call 36
                        with_reducible refine (HN.out _ J7).mono ?_
                        rintro e w8 ⟨rfl, J8⟩
                        have x2 := HX2.out _ J8
                        go_wp2_with fail
                        go_at_call 31
                        with_reducible refine (HSP.out _ J8).mono ?_
                        rintro e w9 ⟨rfl, J9⟩
                        have y2 := HX2.out _ J9
                        have y3 := HLAST.out _ J9
                        go_wp2_with fail
                        go_at_call 27
                        with_reducible refine (must_no 6 _).mono ?_
                        rintro e wm ⟨rfl, hw⟩
                        obtain rfl := hw.symm
                        go_wp2_with fail
                        exact ⟨rfl, EndsB.err HE.out J9⟩
                      | true =>
                        have HE := Lib.hid (hok ⟨hnm, hsp, by rw [hgl, hyx hyy]⟩)
                        rw [hdl] at HE
                        have b1 : (0 : Int) ≤ (n : Int) := by omega
                        have b2 : (n : Int) ≤ (co : Int) := by omega
                        have hT : ∀ W, Below w.heap.size w W → Calls Tryd.prog 21 #[.slice (some ⟨W.heap.size, 0, none⟩) 1 1, pt C] ((W.setCell ⟨A, 2, none⟩ (.slice (some ⟨g, 0, none⟩) n co)).alloc (.cells #[.int .u8 2, .string x, .slice none 0 0, .string ⟨#[]⟩] 34)) fun o w' => o = .returned (.tuple #[]) ∧
                            ∃ vo2 v2 cells2, Inv w' base bt A C { p with opn := init } (ts ++ [⟨2, x, [], ⟨#[]⟩⟩]) vw vo2 v2 cells2 ∧ Fr A base bt w w' := fun W hW => by
                          have hrow := row_take (HROW.out W hW) n (by omega)
                          rw [Nat.mul_one, List.map_append, List.take_left' (by rw [List.length_map, hnn])] at hrow
                          have hI := (HI.out.below hW).setOpn (.slice (some ⟨g, 0, none⟩) n co) init (by rw [hnn]; exact hrow)
                          have hsz : (W.setCell ⟨A, 2, none⟩ (.slice (some ⟨g, 0, none⟩) n co)).heap.size = W.heap.size := by simp [World.setCell]
                          have hT1 := tellI hI 2 2 rfl x ⟨#[]⟩ [] (.slice none 0 0) (World.ownsRow_nil _ _ _ _) (by rw [hsz]; exact Nat.le_trans hb hW.size) (by omega)
                          rw [hsz] at hT1
                          refine hT1.mono ?_
                          rintro o w' ⟨h1, v1, cs, h2, h3⟩
                          exact ⟨h1, _, v1, cs, h2, ((Fr.below hW).trans (Fr.setA A base bt 2 _ W)).trans h3⟩
                        have HT := Lib.hid hT
                        clear hno hok hR hyx hxy hgl hdl hT
                        unfold tellV
                        go_enter Tryd.func28, Tryd.ntmps28
                        go_wp2_with fail
                        go_at_call 30
                        with_reducible refine (HC.out _ J0).mono ?_
                        rintro e w1 ⟨rfl, J1⟩
                        go_wp2_with fail
                        go_at_call 27
                        with_reducible refine (must_ok _ _).mono ?_
                        rintro e wm ⟨rfl, hw⟩
                        obtain rfl := hw.symm
                        go_wp2_with fail
                        go_at_call 32
                        with_reducible refine (HX.out _ J1).mono ?_
                        rintro e w2 ⟨rfl, J2⟩
                        have x4 := HBG.out _ J2
                        go_wp2_with fail
                        go_at_call 33
                        with_reducible refine (HL.out _ J2).mono ?_
                        rintro e w3 ⟨rfl, J3⟩
                        go_wp2_with fail
                        go_at_call 35
                        with_reducible refine (HP1.out _ J3).mono ?_
                        rintro e w5 ⟨rfl, J5⟩
                        go_wp2_with fail
                        go_at_call 35
                        with_reducible refine (HP2.out _ J5).mono ?_
                        rintro e w6 ⟨rfl, J6⟩
                        go_wp2_with fail
                        go_at_call 27
                        with_reducible refine (must_ok _ _).mono ?_
                        rintro e wm ⟨rfl, hw⟩
                        obtain rfl := hw.symm
                        go_wp2_with fail
                        go_at_call 32
                        with_reducible refine (HCE.out _ J6).mono ?_
                        rintro e w7 ⟨rfl, J7⟩
                        go_wp2_with fail
                        go_at_call 36
                        with_reducible refine (HN.out _ J7).mono ?_
                        rintro e w8 ⟨rfl, J8⟩
                        have x2 := HX2.out _ J8
                        go_wp2_with fail
                        go_at_call 31
                        with_reducible refine (HSP.out _ J8).mono ?_
                        rintro e w9 ⟨rfl, J9⟩
                        have y2 := HX2.out _ J9
                        have y3 := HLAST.out _ J9
                        have f2 := (HI.out.below J9).box.f 2
                        go_wp2_with fail
                        go_at_call 27
                        with_reducible refine (must_ok _ _).mono ?_
                        rintro e wm ⟨rfl, hw⟩
                        obtain rfl := hw.symm
                        go_wp2_with fail
                        with_reducible refine (HT.out _ J9).mono ?_
                        rintro e w10 ⟨rfl, hQ⟩
                        have HQ := Lib.hid hQ
                        clear hQ
                        go_wp2_with fail
                        go_returns
                        obtain ⟨vo2, v2, cells2, h1, h2⟩ := HQ.out
                        exact EndsB.good HE.out h1 h2
end Go.Proofs.YtppgjkjdddanbaaDoor
