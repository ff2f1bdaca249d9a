/- The law XmlBalanced: the walk. -/
import Derived.Test.YtppgjkjdddanbaaDoorH4
namespace Go.Proofs.YtppgjkjdddanbaaDoor
open Go.RowKit
open Hb

theorem lastKind_app : ∀ (l : List Tok) (t : Tok) (pk : Nat), lastKind pk (l ++ [t]) = t.kind
  | [], _, _ => rfl
  | _ :: l, t, _ => lastKind_app l t _

/-- one round of the law's loop -/
theorem replay_at {ts : List Tok} {x : List ByteArray × Nat} {o : List ByteArray} {pk k : Nat} (h : replay [] 0 ts = some x) (hk : k < ts.length) (h1 : replay [] 0 (ts.take k) = some (o, pk)) :
    ((ts[k].kind = 1 ∧ replay [] 0 (ts.take (k + 1)) = some (o ++ [ts[k].name], 1)) ∨ (ts[k].kind = 2 ∧ o.getLast? = some ts[k].name ∧ replay [] 0 (ts.take (k + 1)) = some (o.dropLast, 2)) ∨
      (ts[k].kind = 3 ∧ o ≠ [] ∧ ts[k].text ≠ ⟨#[]⟩ ∧ pk ≠ 3 ∧ replay [] 0 (ts.take (k + 1)) = some (o, 3))) ∧ (∀ j, k = j + 1 → ∀ hj : j < ts.length, ts[j].kind = pk) := by
  have h2 : replay o pk (ts.drop k) = some x := by
    rw [← List.take_append_drop k ts, replay_append, h1] at h
    exact h
  rw [List.drop_eq_getElem_cons hk, replay_cons] at h2
  have h3 : replay [] 0 (ts.take (k + 1)) = replay o pk [ts[k]] := by
    rw [← List.take_append_getElem hk, replay_append, h1]
    rfl
  refine ⟨?_, ?_⟩
  · split at h2
    · rename_i hc
      refine .inl ⟨hc, ?_⟩
      rw [h3, replay_cons, if_pos hc, hc]; rfl
    · split at h2
      · rename_i hn hc
        split at h2
        · rename_i hg
          refine .inr (.inl ⟨hc, hg, ?_⟩)
          rw [h3, replay_cons, if_neg hn, if_pos hc, if_pos hg, hc]; rfl
        · cases h2
      · split at h2
        · rename_i hn hn2 hc
          split at h2
          · rename_i hg
            refine .inr (.inr ⟨hc, hg.1, hg.2.1, hg.2.2, ?_⟩)
            rw [h3, replay_cons, if_neg hn, if_neg hn2, if_pos hc, if_pos hg, hc]; rfl
          · cases h2
        · cases h2
  · rintro j rfl hj
    have h4 := replay_pk _ _ _ _ h1
    rw [← List.take_append_getElem hj, lastKind_app] at h4
    exact h4.symm

theorem toList_ne {t : ByteArray} (h : t ≠ ⟨#[]⟩) : (t.toList == []) = false := by
  rw [beq_eq_false_iff_ne]
  intro e
  apply h
  rw [ByteArray.toList_eq] at e
  apply ByteArray.ext
  exact Array.ext' e

set_option maxRecDepth 100000 in
set_option maxHeartbeats 8000000 in
theorem xmlBalanced_walk (w : World) (va : Value) (la : List UInt8) (ha : InB w va la) (hla : la.length ≤ maxLen) :
    Calls Tryd.prog 3 #[va] w fun e w' => e = .returned (.bool true) ∧ Below w.heap.size w w' := by
  have HA := Lib.hid ha
  have HN := Lib.hid (new_any w)
  unfold maxLen at hla
  have HLA := Lib.hid hla
  have HLV := Lib.hid live_any
  clear ha hla
  go_enter Tryd.func3, Tryd.ntmps3
  go_wp2_with fail
  go_at_call 11
  with_reducible refine HN.out.mono ?_
  rintro e w1 ⟨rfl, hw1⟩
  have HB1 := Lib.hid (show Below w.heap.size w w1 by rw [hw1]; exact (Below.refl _ w).alloc (Nat.le_refl _) _)
  have HP1 := Lib.hid (show Par w1 w.heap.size w.heap.size ps0 (.slice none 0 0) (.slice none 0 0) by rw [hw1]; exact Par.new w)
  have HFA := Lib.hid (few_any va la w w1 HA.out (by have := HLA.out; omega))
  clear hw1
  go_wp2_with fail
  go_at_call 13
  with_reducible refine HFA.out.mono ?_
  rintro e w1' ⟨⟨va', rfl, hva⟩, hw⟩
  obtain rfl := hw.symm
  have hlen := few_len la
  generalize la.take 3000 = lf at hva hlen
  obtain ⟨aa, ca, rfl⟩ : ∃ a c, va' = .slice a lf.length c := by obtain ⟨a, c, h, _⟩ := hva; exact ⟨a, c, h⟩
  have hf1 := feed_told w.heap.size w.heap.size w.heap.size ps0 lf _ _ _ w1 HP1.out (.inl rfl) fit0 rfl (hva.bytesAt HB1.out (Nat.le_refl _) (Nat.le_refl _)) HB1.out.size (by omega)
  have hbal := balanced lf
  have hfit := (runP_fit lf ps0 fit0).1
  have htl : (runP ps0 lf).2.1.length ≤ 100000000 := runP_len lf ps0 fit0 (by omega)
  generalize runP ps0 lf = r at hf1 hbal hfit htl
  obtain ⟨p1, ts, e1⟩ := r
  dsimp only at hf1 hbal hfit htl
  obtain ⟨kf, hbal⟩ := hbal
  have HF1 := Lib.hid hf1
  have HBAL := Lib.hid hbal
  clear hf1 hva hbal
  go_wp2_with fail
  go_at_call 12
  with_reducible refine HF1.out.mono ?_
  rintro e w2 ⟨vw2, vo2, v2, rfl, hP2, hT2, hF2⟩
  obtain ⟨at2, ct2, rfl, hat2⟩ := hT2.nilOr
  have HP2 := Lib.hid hP2
  have HT2 := Lib.hid hT2
  have HAT := Lib.hid hat2
  have HB2 := Lib.hid (HB1.out.trans (hF2.belowOf (Nat.le_refl _) (Nat.le_refl _) HB1.out.size))
  clear hP2 hT2 hF2 hat2
  go_wp2_with fail
  go_loopw [6, 7] (fun ov iv W => ∃ (k : Nat) (o : List ByteArray) (pk : Nat), k ≤ ts.length ∧ iv = .int .i64 k ∧ Hid (W.ownsRow w2.heap.size 9 1 ov o.length (o.map Value.string)) ∧ Hid (Below w2.heap.size w2 W) ∧ Hid (replay [] 0 (ts.take k) = some (o, pk))) (fun _ iv _ => ts.length - (intOf iv).toNat)
  case atStart => exact ⟨0, [], 0, Nat.zero_le _, rfl, World.ownsRow_nil _ _ _ _, Below.refl _ _, rfl⟩
  case round =>
    obtain ⟨k, o, pk, hk, rfl, HR, HB, HRP⟩ := hrel
    obtain ⟨so, co, rfl⟩ := row_slice HR.out
    by_cases hlt : k < ts.length
    · have ck : decide ((k : Int) < (ts.length : Int)) = true := by simp; omega
      have hne : ts ≠ [] := fun h => by rw [h] at hlt; cases hlt
      obtain ⟨g, hg, _, _, _⟩ := HAT.out hne
      subst hg
      obtain ⟨hst, hpv⟩ := replay_at HBAL.out hlt HRP.out
      have hTw := HT2.out.below HB.out
      obtain ⟨_, y0, y1, _, y3, _⟩ := hTw.at k hlt
      have HTW := Lib.hid hTw
      clear hTw hne
      rcases hst with ⟨hk1, hs⟩ | ⟨hk2, hgl, hs⟩ | ⟨hk3, hone, htx, hpk3, hs⟩
      · rw [hk1] at y0
        have HS := Lib.hid hs
        have hol : o.length ≤ 0 + k := replay_len _ _ _ _ HRP.out (by rw [List.length_take]; omega)
        have HAP := Lib.hid (appOne HR.out (Below.refl _ wr) (.string ts[k].name) 9)
        obtain ⟨j0, hii, hz0, hz1, hz2⟩ := info_parts infoStr
        have HII := Lib.hid (And.intro hii (And.intro hz0 (And.intro hz1 hz2)))
        have HOL := Lib.hid (show o.length ≤ 1000000000 by omega)
        have hkk : ((1 : Nat) : Int) = 1 := rfl
        rw [hkk] at y0
        clear hs hk1 hpv hol hii hz0 hz1 hz2 y3 hkk
        generalize ts[k].name = nm at y1 HAP HS
        go_wp2_with (at_builtin; refine wpList_append_own _ rfl (.tmp 29) (.tmp 35) 30 rfl w2.heap.size 9 j0 _ 1 16 Tryd.underlying30 HII.out.1 HII.out.2.1 HII.out.2.2.1 HII.out.2.2.2 rfl (by omega) (.slice so o.length co) o.length (o.map Value.string) rfl HAP.out.1 ⟨wr.heap.size, 0, none⟩ 1 1 [.string nm] rfl rfl HAP.out.2.1 (by simp [Value.oneCell']) (by have := HOL.out; simp only [maxLen]; omega) (by have := HOL.out; omega) (Nat.le_trans HB.out.size HAP.out.2.2.size) ?_; intro v8 w8 hown hg _; obtain ⟨sa8, sc8, rfl⟩ := row_slice hown)
        go_roundw
        case rel =>
          refine ⟨k + 1, o ++ [nm], 1, by omega, by go_num, ?_, ?_, HS.out⟩
          · show World.ownsRow _ _ _ _ _ _ _
            rw [List.length_append, List.map_append]
            exact hown
          · have hb1 := HB.out.trans (HAP.out.2.2.mono HB.out.size)
            exact hb1.grown hg hb1.size (fun k hk => ownBlock_base HAP.out.1 k hk)
        case measure => simp [intOf]; omega
      · rw [hk2] at y0
        have HS := Lib.hid hs
        have hkk : ((2 : Nat) : Int) = 2 := rfl
        rw [hkk] at y0
        generalize ts[k].name = nm at y1 hgl HS
        rcases List.eq_nil_or_concat o with ho | ⟨init, y, ho⟩
        · subst ho; cases hgl
        rw [List.concat_eq_append] at ho
        subst ho
        obtain rfl : y = nm := by simpa using hgl
        have hrow := HR.out
        have hlo : (init ++ [y]).length = init.length + 1 := by simp
        rw [hlo] at hrow
        obtain ⟨go, hgo⟩ : ∃ g, so = some ⟨g, 0, none⟩ := by
          rcases hrow.2 with ⟨_, e2⟩ | ⟨g, cap, cur, e1, _⟩
          · omega
          · injection e1 with e1 _ _
            exact ⟨g, e1.symm ▸ rfl⟩
        subst hgo
        have y5 : wr.cell? ⟨go, init.length, none⟩ = some (.string y) := by
          have h1 := World.ownsRow.cells hrow (g := go) rfl init.length (.string y) (by simp)
          have ha : (⟨go, 0, none⟩ : Addr).add init.length = ⟨go, init.length, none⟩ := by unfold Addr.add; split <;> simp_all
          rwa [ha] at h1
        have hco : init.length + 1 ≤ co := by
          rcases hrow.2 with ⟨e1, _⟩ | ⟨_, cap, cur, e1, _, _, e4, _⟩
          · cases e1
          · cases e1; exact e4
        have HRT := Lib.hid (row_take hrow init.length (Nat.le_succ _))
        have hdl : (init ++ [y]).dropLast = init := by simp
        rw [hdl] at HS
        clear hs hk2 hpv hkk y3 hrow hdl hgl
        generalize hnn : init.length = m at y5 hco HRT hlo
        have hml : m ≤ 1000000000 := by
          have h1 : (init ++ [y]).length ≤ 0 + k := replay_len _ _ _ _ HRP.out (by rw [List.length_take]; omega)
          omega
        have HNN := Lib.hid hnn
        clear hnn
        have b1 : (0 : Int) ≤ (m : Int) := by omega
        have b2 : (m : Int) ≤ (co : Int) := by omega
        have b3 : (((m + 1 : Nat) : Int) == 0) = false := by rw [beq_eq_false_iff_ne]; omega
        have b4 : ((m : Int) + 1 == 0) = false := by rw [beq_eq_false_iff_ne]; omega
        go_wp2_with fail
        go_quiet (fail)
        go_wp2_with fail
        go_roundw
        case rel =>
          refine ⟨k + 1, init, 2, by omega, by go_num, ?_, bdrewN HB.out nq, HS.out⟩
          have h1 := HRT.out
          rw [Nat.mul_one, List.map_append, List.take_left' (by rw [List.length_map]; exact HNN.out)] at h1
          show World.ownsRow _ _ _ _ _ _ _
          rw [HNN.out]
          exact h1
        case measure => simp [intOf]; omega
      · rw [hk3] at y0
        have HS := Lib.hid hs
        have hkk : ((3 : Nat) : Int) = 3 := rfl
        rw [hkk] at y0
        have ho0 : 0 < o.length := by
          cases o with
          | nil => exact absurd rfl hone
          | cons x y => simp
        have b3 : ((o.length : Int) == 0) = false := by rw [beq_eq_false_iff_ne]; omega
        have b5 := toList_ne htx
        have HON := Lib.hid ho0
        have hz : ∀ j, k = j + 1 → wr.cell? ⟨g, j * 4, none⟩ = some (.int .u8 pk) := fun j hj => by
          obtain ⟨_, z0, _⟩ := HTW.out.at j (by omega)
          rw [hpv j hj (by omega)] at z0
          exact z0
        have HPK := Lib.hid hpk3
        clear hs hk3 hpv hkk ho0 hone htx hpk3
        cases k with
        | zero =>
          go_wp2_with fail
          go_roundw
          case rel => exact ⟨1, o, 3, by omega, by go_num, HR.out, HB.out, HS.out⟩
          case measure => simp [intOf]; omega
        | succ j =>
          have z0 := hz j rfl
          have b6 : ((pk : Int) == 3) = false := by rw [beq_eq_false_iff_ne]; have := HPK.out; omega
          have b7 : (0 : Int) ≤ (j : Int) := by omega
          have b8 : (j : Int) < (ts.length : Int) := by omega
          have b9 : (0 : Int) < (j : Int) + 1 := by omega
          clear hz
          go_wp2_with fail
          go_roundw
          case rel => exact ⟨j + 1 + 1, o, 3, by omega, by go_num, HR.out, HB.out, HS.out⟩
          case measure => simp [intOf]; omega
    · have ck : decide ((k : Int) < (ts.length : Int)) = false := by simp; omega
      have hkl : k = ts.length := by omega
      subst hkl
      rw [List.take_length] at HRP
      have ho1 : o = p1.opn := by
        have h1 := HBAL.out
        rw [HRP.out] at h1
        cases h1; rfl
      have HP3 := Lib.hid (HP2.out.below HB.out)
      obtain ⟨gv, cv, hvo⟩ := row_slice HP3.out.opn
      subst hvo
      have HDP := Lib.hid (fun W (hb : Below wr.heap.size wr W) => depth_any w.heap.size _ _ _ _ _ gv p1.opn.length cv W (HP3.out.below hb).box)
      rw [ho1]
      have HBW := Lib.hid (HB2.out.trans (HB.out.mono HB2.out.size))
      clear HRP HR HBAL HAT
      generalize p1.opn.length = d at HDP
      by_cases he : e1 = 0
      · subst he
        have c0 : (((0 : Nat) : Int) != 0) = false := rfl
        have c1 : ((d : Int) == (d : Int)) = true := by simp
        go_wp2_with fail
        go_at_call 14
        with_reducible refine (HLV.out _).mono ?_
        rintro e w3 ⟨rfl, hB3⟩
        go_wp2_with fail
        go_at_call 15
        with_reducible refine (HDP.out _ hB3).mono ?_
        rintro e w4 ⟨rfl, hw4⟩
        obtain rfl := hw4.symm
        go_wp2_with fail
        go_returns
        exact ⟨rfl, HBW.out.trans (hB3.mono HBW.out.size)⟩
      · have c0 : ((e1 : Int) != 0) = true := by unfold bne; rw [(beq_eq_false_iff_ne).2 (by omega)]; rfl
        go_wp2_with fail
        go_at_call 14
        with_reducible refine (HLV.out _).mono ?_
        rintro e w3 ⟨rfl, hB3⟩
        go_wp2_with fail
        go_returns
        exact ⟨rfl, HBW.out.trans (hB3.mono HBW.out.size)⟩
end Go.Proofs.YtppgjkjdddanbaaDoor
