/- xml's take, as the plain function tells it. -/
import Derived.Test.YtppgjkjdddanbaaDoorG7
import Derived.Deep.DeepCutAuto
namespace Go.Proofs.YtppgjkjdddanbaaDoor
open Go.RowKit
open Hb

theorem waitCell {w : World} {base : Nat} {e : TypeId} {vw : Value} {b : UInt8} {l : List UInt8} (h : OwnB w base e vw (b :: l)) : ∃ g c, vw = .slice (some ⟨g, 0, none⟩) (l.length + 1) c ∧ w.cell? ⟨g, 0, none⟩ = some (.int .u8 b.toNat) := by
  rcases h.2 with ⟨_, e2⟩ | ⟨g, cap, cur, e1, _⟩
  · simp at e2
  · refine ⟨g, cap, e1, ?_⟩
    have h1 := World.ownsRow.cells h (g := g) (by rw [e1]; rfl) 0 (.int .u8 b.toNat) rfl
    have ha : (⟨g, 0, none⟩ : Addr).add 0 = ⟨g, 0, none⟩ := by unfold Addr.add; split <;> simp_all
    rwa [ha] at h1

def tagB : List UInt8 → Bool
  | [] => false
  | b :: _ => (b.toNat : Int) == 60
theorem eq60 (c : UInt8) (k : UInt8) : ((c.toNat : Int) == (k.toNat : Int)) = (c == k) := by
  by_cases h : c = k
  · subst h; simp
  · have h1 : (c == k) = false := by simpa using h
    rw [h1, beq_eq_false_iff_ne]
    intro e
    exact h (UInt8.toNat_inj.1 (by omega))
theorem endsText_eq (p : PS) (c : UInt8) : endsText p c = (((c.toNat : Int) == 60) && !(tagB p.wait) && decide (0 < p.wait.length)) := by
  unfold endsText
  have h1 : ((c.toNat : Int) == 60) = (c == 60) := eq60 c 60
  rw [h1]
  cases p.wait with
  | nil => simp [tagB]
  | cons b l =>
    have h2 : ((b.toNat : Int) == 60) = (b == 60) := eq60 b 60
    simp [tagB, h2, bne]

def addT (l : List Tok) (r : PS × List Tok × Nat) : PS × List Tok × Nat := (r.1, l ++ r.2.1, r.2.2)
theorem takeP_more {p : PS} {c : UInt8} (h : endsText p c = false) : takeP p c = addT [] (takeT p c) := by
  unfold takeP addT
  rw [if_neg (by rw [h]; decide)]
  rfl
theorem takeP_bad {p : PS} {c : UInt8} (h : endsText p c = true) (h2 : charsP p.opn ⟨p.wait.toArray⟩ = none) : takeP p c = ({ p with wait := [] }, [], 6) := by
  unfold takeP
  rw [if_pos h, h2]
theorem takeP_text {p : PS} {c : UInt8} {l : List Tok} (h : endsText p c = true) (h2 : charsP p.opn ⟨p.wait.toArray⟩ = some l) : takeP p c = addT l (takeT { p with wait := [], begun := true } c) := by
  unfold takeP addT
  rw [if_pos h, h2]
theorem charsP_len {o : List ByteArray} {s : ByteArray} {l : List Tok} (h : charsP o s = some l) : l.length ≤ 1 := by
  unfold charsP at h
  split at h
  · split at h
    · cases h
    · split at h
      · split at h
        · cases h; decide
        · cases h
      · split at h
        · cases h; decide
        · cases h; simp
  · cases h

def EndsT (base bt A C : Nat) (ts : List Tok) (w : World) (r : PS × List Tok × Nat) (o : Ending) (w' : World) : Prop := (if r.2.2 = 0 then o = .returned (.tuple #[]) else o = panic1 r.2.2) ∧ (∃ vw' vo' vout' cells', Inv w' base bt A C r.1 (ts ++ r.2.1) vw' vo' vout' cells') ∧ Fr A base bt w w'
theorem EndsT.bad {base bt A C : Nat} {ts l : List Tok} {w w' : World} {r : PS × List Tok × Nat} {p' : PS} {k : Nat} {vw vo vout : Value} {cells : List Value} (hr : r = (p', l, k)) (hk : k ≠ 0) (h : Inv w' base bt A C p' (ts ++ l) vw vo vout cells) (hf : Fr A base bt w w') : EndsT base bt A C ts w r (panic1 k) w' := by
  subst hr
  refine ⟨?_, ⟨_, _, _, _, h⟩, hf⟩
  rw [if_neg hk]
theorem EndsT.good {base bt A C : Nat} {ts l : List Tok} {w w' : World} {r : PS × List Tok × Nat} {p' : PS} {vw vo vout : Value} {cells : List Value} (hr : r = (p', l, 0)) (h : Inv w' base bt A C p' (ts ++ l) vw vo vout cells) (hf : Fr A base bt w w') : EndsT base bt A C ts w r (.returned (.tuple #[])) w' := by
  subst hr
  refine ⟨?_, ⟨_, _, _, _, h⟩, hf⟩
  rw [if_pos rfl]

theorem grown_alloc {w w5 : World} {o : Obj} {r : Option Nat} (hg : (w.alloc o).grownBy w5 r) : Only (fun k => some k = r) w w5 :=
  Only.trans (Below.only ((Below.refl w.heap.size w).alloc (Nat.le_refl _) o) (fun k => some k = r)) (grown_only hg) (fun _ _ h => h)

theorem Inv.grow {w w5 : World} {base bt A C : Nat} {p : PS} {ts : List Tok} {vw vo vout : Value} {cells : List Value} (h : Inv w base bt A C p ts vw vo vout cells) (ho : Only (fun k => some k = vw.ownBlock) w w5) {l' : List UInt8} {v1 : Value} (hw : OwnB w5 base 5 v1 l') :
    Inv (w5.setCell ⟨A, 0, none⟩ v1) base bt A C { p with wait := l' } ts v1 vo vout cells ∧ Fr A base bt w (w5.setCell ⟨A, 0, none⟩ v1) ∧ Box w5 A 47 #[vw, .int .u8 p.quote.toNat, vo, .bool p.rooted, .bool p.begun, .int .i64 p.broken] := by
  have hS : ∀ {T : TypeId} {k : Nat}, Tg w T k → T ≠ 5 → ¬ some k = vw.ownBlock := fun ht hn e => hn (ht.ne (own_tag h.wait _ e))
  have hbox := ho.box h.box (hS h.box.tag (by decide))
  have hc := ho.box h.cbox (hS h.cbox.tag (by decide))
  have hopn := own_only h.opn ho (fun g hg => hS (own_tag h.opn g hg) (by decide))
  have hout := own_only h.out ho (fun g hg => hS (own_tag h.out g hg) (by decide))
  have htok := tokCells_only ho (fun k hk ht => hS ht (by decide) hk) h.toks
  have ho2 := Only.set w5 A 0 v1
  have hA : ∀ {T : TypeId} {k : Nat}, Tg w5 T k → T ≠ 47 → ¬ k = A := fun ht hn e => hn (by subst e; exact ht.ne hbox.tag)
  refine ⟨⟨hbox.set 0 v1, ?_, ?_, ?_, ?_, ?_, h.hC⟩, (Fr.of ho (fun k hk => .inr (.inl ⟨ownBlock_base h.wait k hk.symm, own_tag h.wait k hk⟩))).trans (Fr.setA A base bt 0 v1 w5), hbox⟩
  · exact own_only hw ho2 (fun g hg => hA (own_tag hw g hg) (by decide))
  · exact own_only hopn ho2 (fun g hg => hA (own_tag hopn g hg) (by decide))
  · exact ho2.box hc (hA hc.tag (by decide))
  · exact own_only hout ho2 (fun g hg => hA (own_tag hout g hg) (by decide))
  · exact tokCells_only ho2 (fun k hk ht => hA ht (by decide) hk) htok

theorem beginP_nz {p : PS} {s : ByteArray} {k : Nat} (h : beginP p s = .error k) : k ≠ 0 := by
  unfold beginP at h
  dsimp only at h
  split at h
  · cases ha : attrsR ((cutSuf s ⟨#[47]⟩).1.extract (nameLen (cutSuf s ⟨#[47]⟩).1.data.toList) (cutSuf s ⟨#[47]⟩).1.size) with
    | none => rw [ha] at h; unfold beginO at h; cases h; decide
    | some l =>
      rw [ha] at h
      unfold beginO beginT at h
      dsimp only at h
      repeat' split at h
      all_goals first | (cases h; decide) | cases h
  · cases h; decide
theorem tagP_nz {p : PS} {s : ByteArray} (k : Nat) (h : tagP p s = .error k) : k ≠ 0 := by
  unfold tagP at h
  dsimp only at h
  split at h
  · split at h
    · cases h
    · split at h
      · cases h; decide
      · split at h
        · unfold endP at h
          split at h
          · cases h
          · cases h; decide
        · exact beginP_nz h
  · cases h; decide

theorem headAt {w : World} {base n c : Nat} {e : TypeId} {s : Option Addr} {b : UInt8} {l m : List UInt8} (h : OwnB w base e (.slice s n c) m) (hm : m = b :: l) : ∃ g, s = some ⟨g, 0, none⟩ ∧ w.cell? ⟨g, 0, none⟩ = some (.int .u8 b.toNat) := by
  subst hm
  obtain ⟨g, c', h1, h2⟩ := waitCell h
  injection h1 with h1 _ _
  exact ⟨g, h1, h2⟩
theorem u8b (a b : UInt8) : ((a.toNat : Int) == (b.toNat : Int)) = decide (a = b) := by
  rw [eq60]
  by_cases h : a = b <;> simp [h]
theorem u8n (a b : UInt8) : ((a.toNat : Int) != (b.toNat : Int)) = !decide (a = b) := by
  unfold bne
  rw [u8b]

theorem takeT_text {p : PS} {c b : UInt8} {l : List UInt8} (h : p.wait ++ [c] = b :: l) (hb : b ≠ 60) : takeT p c = ({ p with wait := b :: l }, [], if (b :: l).length ≤ 512 then 0 else 5) := by
  unfold takeT
  dsimp only
  rw [h, if_pos (by simpa using hb)]
theorem takeT_long {p : PS} {c : UInt8} {l : List UInt8} (h : p.wait ++ [c] = 60 :: l) (hl : 2048 < l.length + 1) : takeT p c = ({ p with wait := 60 :: l }, [], 5) := by
  unfold takeT
  dsimp only
  rw [h, if_neg (by simp), if_pos (by simpa using hl)]
theorem takeT_unquote {p : PS} {c : UInt8} {l : List UInt8} (h : p.wait ++ [c] = 60 :: l) (hl : ¬ 2048 < l.length + 1) (hq : p.quote = c) : takeT p c = ({ p with wait := 60 :: l, quote := 0 }, [], 0) := by
  unfold takeT
  dsimp only
  rw [h, if_neg (by simp), if_neg (by simpa using hl), if_pos hq]
theorem takeT_in {p : PS} {c : UInt8} {l : List UInt8} (h : p.wait ++ [c] = 60 :: l) (hl : ¬ 2048 < l.length + 1) (hq : ¬ p.quote = c) (hq0 : p.quote ≠ 0) : takeT p c = ({ p with wait := 60 :: l }, [], 0) := by
  unfold takeT
  dsimp only
  rw [h, if_neg (by simp), if_neg (by simpa using hl), if_neg hq, if_pos hq0]
theorem takeT_quote {p : PS} {c : UInt8} {l : List UInt8} (h : p.wait ++ [c] = 60 :: l) (hl : ¬ 2048 < l.length + 1) (hq : ¬ p.quote = c) (hq0 : p.quote = 0) (hc : c = 39 ∨ c = 34) : takeT p c = ({ p with wait := 60 :: l, quote := c }, [], 0) := by
  unfold takeT
  dsimp only
  rw [h, if_neg (by simp), if_neg (by simpa using hl), if_neg hq, if_neg (by simpa using hq0), if_pos hc]
theorem takeT_other {p : PS} {c : UInt8} {l : List UInt8} (h : p.wait ++ [c] = 60 :: l) (hl : ¬ 2048 < l.length + 1) (hq : ¬ p.quote = c) (hq0 : p.quote = 0) (hc : ¬ (c = 39 ∨ c = 34)) (hc2 : ¬ c = 62) : takeT p c = ({ p with wait := 60 :: l }, [], 0) := by
  unfold takeT
  dsimp only
  rw [h, if_neg (by simp), if_neg (by simpa using hl), if_neg hq, if_neg (by simpa using hq0), if_neg hc, if_neg hc2]
def tagEnd (p : PS) : Except Nat (PS × List Tok) → PS × List Tok × Nat
  | .error k => ({ p with wait := [] }, [], k)
  | .ok (p', l) => ({ p' with begun := true }, l, 0)
theorem takeT_tag {p : PS} {c : UInt8} {l : List UInt8} (h : p.wait ++ [c] = 60 :: l) (hl : ¬ 2048 < l.length + 1) (hq : ¬ p.quote = c) (hq0 : p.quote = 0) (hc : ¬ (c = 39 ∨ c = 34)) (hc2 : c = 62) : takeT p c = tagEnd p (tagP { p with wait := [] } ⟨(60 :: l).toArray⟩) := by
  unfold takeT
  dsimp only
  rw [h, if_neg (by simp), if_neg (by simpa using hl), if_neg hq, if_neg (by simpa using hq0), if_neg hc, if_pos hc2]
  cases tagP { p with wait := [] } ⟨(60 :: l).toArray⟩ <;> rfl

set_option maxRecDepth 100000 in
set_option maxHeartbeats 16000000 in
theorem take_any (base0 base bt A C : Nat) (p : PS) (c : UInt8) (ts : List Tok) (vw vo vout : Value) (cells : List Value) (w : World) (h : Inv w base0 bt A C p ts vw vo vout cells) (hbs : endsText p c = true ∨ base0 = base) (hb : bt ≤ w.heap.size) (hba : base ≤ w.heap.size) (hn : ts.length ≤ 100000000) (hw : p.wait.length ≤ 2048) (ho : p.opn.length ≤ 8) :
    Calls Tryd.prog 22 #[pt A, .int .u8 c.toNat, tellV C] w (EndsT base bt A C ts w (takeP p c)) := by
  have HI := Lib.hid h
  have x0 : w.cell? ⟨A, 0, none⟩ = some vw := h.box.cell 0
  have hwl : OwnB w base0 5 vw p.wait := h.wait
  have HBS := Lib.hid hbs
  clear hbs
  clear h
  obtain ⟨r, hr⟩ : ∃ r, r = takeP p c := ⟨_, rfl⟩
  rw [← hr]
  have HR := Lib.hid hr
  clear hr
  have hc256 := c.toNat_lt
  unfold tellV
  go_enter Tryd.func22, Tryd.ntmps22
  go_upto_region 0 with fail
  go_cut [6] (fun s wx => s = .bool (tagB p.wait) ∧ wx = w)
  case first =>
    cases hwt : p.wait with
    | nil =>
      rw [hwt] at hwl
      obtain ⟨g, cc, rfl⟩ := ownB_slice hwl
      go_wp2_with fail
      go_meet
      exact ⟨by rw [hwt]; rfl, rfl⟩
    | cons b l =>
      rw [hwt] at hwl
      obtain ⟨g, cc, rfl, hcell⟩ := waitCell hwl
      go_wp2_with fail
      go_meet
      exact ⟨by rw [hwt]; rfl, rfl⟩
  case rest =>
    obtain ⟨rfl, hwc⟩ := hcut
    obtain rfl := hwc.symm
    have HT := Lib.hid (endsText_eq p c)
    generalize tagB p.wait = tb at HT ⊢
    go_upto_region 1 with fail
    go_cut [35] (fun s wx => s = .bool (endsText p c) ∧ wx = w)
    case first =>
      obtain ⟨g, cc, rfl⟩ := ownB_slice hwl
      cases hcb : ((c.toNat : Int) == 60) with
      | false =>
        go_wp2_with fail
        go_meet
        exact ⟨by rw [HT.out, hcb]; rfl, rfl⟩
      | true =>
        cases tb with
        | true =>
          go_wp2_with fail
          go_meet
          exact ⟨by rw [HT.out, hcb]; rfl, rfl⟩
        | false =>
          go_wp2_with fail
          go_meet
          exact ⟨by rw [HT.out, hcb]; simp, rfl⟩
    case rest =>
      obtain ⟨rfl, hwc⟩ := hcut
      obtain rfl := hwc.symm
      go_upto_if 35 with fail
      go_cut [6] (fun sx wx => sx = .bool tb ∧ ∃ (p0 : PS) (l0 : List Tok) (vw0 vout0 : Value) (cells0 : List Value), Hid (Inv wx base bt A C p0 (ts ++ l0) vw0 vo vout0 cells0) ∧ Hid (r = addT l0 (takeT p0 c)) ∧ Hid (Fr A base bt w wx) ∧ Hid (p0.wait.length ≤ 2048 ∧ p0.opn = p.opn ∧ l0.length ≤ 1))
      case first =>
        cases hE : endsText p c with
        | false =>
          go_wp2_with fail
          go_meet
          refine ⟨rfl, p, [], vw, vout, cells, ?_, HR.out.trans (takeP_more hE), Fr.refl _ _ _ _, hw, rfl, by simp⟩
          have hb0 : base0 = base := HBS.out.resolve_left (by rw [hE]; decide)
          show Inv _ _ _ _ _ _ _ _ _ _ _
          rw [List.append_nil, ← hb0]
          exact HI.out
        | true =>
          have HP := Lib.hid (piece_any A vw _ vo _ _ _ p.wait w HI.out.box (own_mono hwl (Nat.zero_le _)))
          have hI1 := HI.out.setWait (base' := base) (.slice none 0 0) [] (OwnB.nil _ _ _)
          have HI1 := Lib.hid hI1
          have HCH := Lib.hid (charsF base bt A C { p with wait := [] } ts _ vo vout cells ⟨p.wait.toArray⟩ _ hI1 (by rw [Lib.size_eq]; show p.wait.length ≤ _; omega) (by simpa [World.setCell] using hb) (by omega))
          clear hI1
          have HF1 := Lib.hid (Fr.setA A base bt 0 (.slice none 0 0) w)
          go_wp2_with fail
          go_at_call 26
          with_reducible refine HP.out.mono ?_
          rintro e w1 ⟨rfl, hw1⟩
          subst hw1
          unfold tellV at HCH
          cases hcp : charsP p.opn ⟨p.wait.toArray⟩ with
          | none =>
            have hCH := HCH.out
            rw [hcp] at hCH
            have HCN := Lib.hid hCH
            have HE := Lib.hid (HR.out.trans (takeP_bad hE hcp))
            clear hCH HCH hcp
            go_wp2_with fail
            with_reducible refine HCN.out.mono ?_
            rintro e w3 ⟨rfl, hB3⟩
            unfold panic1
            go_wp2_with fail
            exact ⟨rfl, EndsT.bad (l := []) HE.out (by decide) (by rw [List.append_nil]; exact HI1.out.below hB3) (HF1.out.trans (Fr.below hB3))⟩
          | some l =>
            have hCH := HCH.out
            rw [hcp] at hCH
            have HCN := Lib.hid hCH
            have HE := Lib.hid (HR.out.trans (takeP_text hE hcp))
            have HLN := Lib.hid (charsP_len hcp)
            clear hCH HCH hcp
            go_wp2_with fail
            with_reducible refine HCN.out.mono ?_
            rintro e w3 ⟨rfl, v3, cs3, hI3, hF3⟩
            have HI3 := Lib.hid hI3
            have HF3 := Lib.hid (HF1.out.trans hF3)
            have z4 : w3.cell? ⟨A, 4, none⟩ = some (.bool p.begun) := hI3.box.cell 4
            have f4 := hI3.box.f 4
            clear hI3 hF3
            go_wp2_with fail
            go_meet
            exact ⟨rfl, _, l, _, v3, cs3, HI3.out.setFlag (p' := { p with wait := [], begun := true }) 4 (.bool true) rfl rfl rfl, HE.out, HF3.out.trans (Fr.setA A base bt 4 _ w3), by simp, rfl, HLN.out⟩
      case rest =>
        obtain ⟨hsx, p0, l0, vw0, vout0, cells0, H0, HRR, HF0, HSZ⟩ := hcut
        clear hsx
        obtain ⟨s0, n0, hvw⟩ := ownB_slice H0.out.wait
        subst hvw
        have y0 : wc.cell? ⟨A, 0, none⟩ = some (.slice s0 p0.wait.length n0) := H0.out.box.cell 0
        have HAP := Lib.hid (appOne H0.out.wait (Below.refl _ wc) (.int .u8 c.toNat) 5)
        have HWL := Lib.hid (show p0.wait.length ≤ 2048 from HSZ.out.1)
        obtain ⟨i0, hii, hz0, hz1, hz2⟩ := info_parts info5
        have HII := Lib.hid (And.intro hii (And.intro hz0 (And.intro hz1 hz2)))
        have HGR := Lib.hid (fun w5 l' v1 => H0.out.grow (w5 := w5) (l' := l') (v1 := v1))
        have HBS := Lib.hid (Nat.le_trans hba HF0.out.size)
        have HWT0 : ∃ b0 l1, p0.wait ++ [c] = b0 :: l1 := by
          cases p0.wait with
          | nil => exact ⟨c, [], rfl⟩
          | cons b l => exact ⟨b, l ++ [c], rfl⟩
        obtain ⟨b0, l1, hwt⟩ := HWT0
        have HWT := Lib.hid hwt
        have hlen : p0.wait.length = l1.length := by
          have := congrArg List.length hwt
          simpa using this
        have HLEN := Lib.hid hlen
        clear hii hz0 hz1 hz2 hwt hlen
        by_cases hb0 : b0 = 60
        · subst hb0
          have eb : (((60 : UInt8).toNat : Int) != 60) = false := by decide
          by_cases hl : 2048 < l1.length + 1
          · have c1 : decide ((p0.wait.length : Int) + 1 ≤ 2048) = false := by have := HLEN.out; simp; omega
            have HE := Lib.hid (HRR.out.trans (congrArg (addT l0) (takeT_long HWT.out hl)))
            go_wp2_with (at_builtin; refine wpList_append_own _ rfl (.tmp 48) (.tmp 50) 22 rfl base 5 i0 _ 1 1 Tryd.underlying22 HII.out.1 HII.out.2.1 HII.out.2.2.1 HII.out.2.2.2 rfl (by omega) (.slice s0 p0.wait.length n0) p0.wait.length (cellsB p0.wait) rfl HAP.out.1 ⟨wc.heap.size, 0, none⟩ 1 1 [.int .u8 c.toNat] rfl rfl HAP.out.2.1 (by simp [Value.oneCell']) (by have := HWL.out; simp only [maxLen]; omega) (by have := HWL.out; omega) (Nat.le_trans HBS.out HAP.out.2.2.size) ?_; intro v5 w5 hown hg _; obtain ⟨s5, n5, rfl⟩ := row_slice hown; have hwB : OwnB w5 base 5 (.slice s5 (p0.wait.length + 1) n5) (p0.wait ++ [c]) := (by unfold OwnB; rw [List.length_append, cellsB_append]; exact hown); obtain ⟨hI6, hF6, hb5⟩ := HGR.out w5 _ _ (grown_alloc hg) hwB; obtain ⟨g5, rfl, hc6⟩ := headAt hI6.wait HWT.out; have y5 : w5.cell? ⟨A, 0, none⟩ = some (.slice s0 p0.wait.length n0) := hb5.cell 0; have y51 : w5.cell? ⟨A, 1, none⟩ = some (.int .u8 p0.quote.toNat) := hb5.cell 1; have f5 := hb5.f 0; have f51 := hb5.f 1; have y61 : _ = some (Value.int .u8 p0.quote.toNat) := hI6.box.cell 1; have f61 := hI6.box.f 1; have HI6 := Lib.hid hI6; have HF6 := Lib.hid (HF0.out.trans hF6); clear hI6 hF6 hg hown hwB hb5)
            go_at_call 27
            with_reducible refine (must_no 5 _).mono ?_
            rintro e wm ⟨rfl, hwm⟩
            subst hwm
            go_wp2_with fail
            exact ⟨rfl, EndsT.bad (l := l0) (HE.out.trans (by unfold addT; rw [List.append_nil])) (by decide) (by have := HI6.out; rw [HWT.out] at this; exact this) HF6.out⟩
          · have c1 : decide ((p0.wait.length : Int) + 1 ≤ 2048) = true := by have := HLEN.out; simp; omega
            have eqc := u8b p0.quote c
            by_cases hq : p0.quote = c
            · rw [decide_eq_true hq] at eqc
              have HE := Lib.hid (HRR.out.trans (congrArg (addT l0) (takeT_unquote HWT.out hl hq)))
              go_wp2_with (at_builtin; refine wpList_append_own _ rfl (.tmp 48) (.tmp 50) 22 rfl base 5 i0 _ 1 1 Tryd.underlying22 HII.out.1 HII.out.2.1 HII.out.2.2.1 HII.out.2.2.2 rfl (by omega) (.slice s0 p0.wait.length n0) p0.wait.length (cellsB p0.wait) rfl HAP.out.1 ⟨wc.heap.size, 0, none⟩ 1 1 [.int .u8 c.toNat] rfl rfl HAP.out.2.1 (by simp [Value.oneCell']) (by have := HWL.out; simp only [maxLen]; omega) (by have := HWL.out; omega) (Nat.le_trans HBS.out HAP.out.2.2.size) ?_; intro v5 w5 hown hg _; obtain ⟨s5, n5, rfl⟩ := row_slice hown; have hwB : OwnB w5 base 5 (.slice s5 (p0.wait.length + 1) n5) (p0.wait ++ [c]) := (by unfold OwnB; rw [List.length_append, cellsB_append]; exact hown); obtain ⟨hI6, hF6, hb5⟩ := HGR.out w5 _ _ (grown_alloc hg) hwB; obtain ⟨g5, rfl, hc6⟩ := headAt hI6.wait HWT.out; have y5 : w5.cell? ⟨A, 0, none⟩ = some (.slice s0 p0.wait.length n0) := hb5.cell 0; have y51 : w5.cell? ⟨A, 1, none⟩ = some (.int .u8 p0.quote.toNat) := hb5.cell 1; have f5 := hb5.f 0; have f51 := hb5.f 1; have y61 : _ = some (Value.int .u8 p0.quote.toNat) := hI6.box.cell 1; have f61 := hI6.box.f 1; have HI6 := Lib.hid hI6; have HF6 := Lib.hid (HF0.out.trans hF6); clear hI6 hF6 hg hown hwB hb5)
              go_at_call 27
              with_reducible refine (must_ok _ _).mono ?_
              rintro e wm ⟨rfl, hwm⟩
              subst hwm
              go_wp2_with fail
              go_returns
              exact EndsT.good (l := l0) (HE.out.trans (by unfold addT; rw [List.append_nil])) ((by have := HI6.out; rw [HWT.out] at this; exact this : Inv _ base bt A C { p0 with wait := 60 :: l1 } (ts ++ l0) _ vo vout0 cells0).setFlag (p' := { p0 with wait := 60 :: l1, quote := 0 }) 1 (.int .u8 0) rfl rfl rfl) (HF6.out.trans (Fr.setA A base bt 1 _ _))
            · rw [decide_eq_false hq] at eqc
              have eq0 := u8n p0.quote 0
              change ((p0.quote.toNat : Int) != 0) = _ at eq0
              by_cases hq0 : p0.quote = 0
              · rw [decide_eq_true hq0] at eq0
                change _ = false at eq0
                have e39 := u8b c 39
                change ((c.toNat : Int) == 39) = _ at e39
                have e34 := u8b c 34
                change ((c.toNat : Int) == 34) = _ at e34
                have e62 := u8b c 62
                change ((c.toNat : Int) == 62) = _ at e62
                by_cases h39 : c = 39
                · rw [decide_eq_true h39] at e39
                  have H39 := Lib.hid h39
                  clear h39
                  have HE := Lib.hid (HRR.out.trans (congrArg (addT l0) (takeT_quote HWT.out hl hq hq0 (.inl H39.out))))
                  go_wp2_with (at_builtin; refine wpList_append_own _ rfl (.tmp 48) (.tmp 50) 22 rfl base 5 i0 _ 1 1 Tryd.underlying22 HII.out.1 HII.out.2.1 HII.out.2.2.1 HII.out.2.2.2 rfl (by omega) (.slice s0 p0.wait.length n0) p0.wait.length (cellsB p0.wait) rfl HAP.out.1 ⟨wc.heap.size, 0, none⟩ 1 1 [.int .u8 c.toNat] rfl rfl HAP.out.2.1 (by simp [Value.oneCell']) (by have := HWL.out; simp only [maxLen]; omega) (by have := HWL.out; omega) (Nat.le_trans HBS.out HAP.out.2.2.size) ?_; intro v5 w5 hown hg _; obtain ⟨s5, n5, rfl⟩ := row_slice hown; have hwB : OwnB w5 base 5 (.slice s5 (p0.wait.length + 1) n5) (p0.wait ++ [c]) := (by unfold OwnB; rw [List.length_append, cellsB_append]; exact hown); obtain ⟨hI6, hF6, hb5⟩ := HGR.out w5 _ _ (grown_alloc hg) hwB; obtain ⟨g5, rfl, hc6⟩ := headAt hI6.wait HWT.out; have y5 : w5.cell? ⟨A, 0, none⟩ = some (.slice s0 p0.wait.length n0) := hb5.cell 0; have y51 : w5.cell? ⟨A, 1, none⟩ = some (.int .u8 p0.quote.toNat) := hb5.cell 1; have f5 := hb5.f 0; have f51 := hb5.f 1; have y61 : _ = some (Value.int .u8 p0.quote.toNat) := hI6.box.cell 1; have f61 := hI6.box.f 1; have HI6 := Lib.hid hI6; have HF6 := Lib.hid (HF0.out.trans hF6); clear hI6 hF6 hg hown hwB hb5)
                  go_at_call 27
                  with_reducible refine (must_ok _ _).mono ?_
                  rintro e wm ⟨rfl, hwm⟩
                  subst hwm
                  go_wp2_with fail
                  go_returns
                  exact EndsT.good (l := l0) (HE.out.trans (by unfold addT; rw [List.append_nil])) ((by have := HI6.out; rw [HWT.out] at this; exact this : Inv _ base bt A C { p0 with wait := 60 :: l1 } (ts ++ l0) _ vo vout0 cells0).setFlag (p' := { p0 with wait := 60 :: l1, quote := c }) 1 (.int .u8 c.toNat) rfl rfl rfl) (HF6.out.trans (Fr.setA A base bt 1 _ _))
                · rw [decide_eq_false h39] at e39
                  by_cases h34 : c = 34
                  · rw [decide_eq_true h34] at e34
                    have H34 := Lib.hid h34
                    clear h34
                    have HE := Lib.hid (HRR.out.trans (congrArg (addT l0) (takeT_quote HWT.out hl hq hq0 (.inr H34.out))))
                    go_wp2_with (at_builtin; refine wpList_append_own _ rfl (.tmp 48) (.tmp 50) 22 rfl base 5 i0 _ 1 1 Tryd.underlying22 HII.out.1 HII.out.2.1 HII.out.2.2.1 HII.out.2.2.2 rfl (by omega) (.slice s0 p0.wait.length n0) p0.wait.length (cellsB p0.wait) rfl HAP.out.1 ⟨wc.heap.size, 0, none⟩ 1 1 [.int .u8 c.toNat] rfl rfl HAP.out.2.1 (by simp [Value.oneCell']) (by have := HWL.out; simp only [maxLen]; omega) (by have := HWL.out; omega) (Nat.le_trans HBS.out HAP.out.2.2.size) ?_; intro v5 w5 hown hg _; obtain ⟨s5, n5, rfl⟩ := row_slice hown; have hwB : OwnB w5 base 5 (.slice s5 (p0.wait.length + 1) n5) (p0.wait ++ [c]) := (by unfold OwnB; rw [List.length_append, cellsB_append]; exact hown); obtain ⟨hI6, hF6, hb5⟩ := HGR.out w5 _ _ (grown_alloc hg) hwB; obtain ⟨g5, rfl, hc6⟩ := headAt hI6.wait HWT.out; have y5 : w5.cell? ⟨A, 0, none⟩ = some (.slice s0 p0.wait.length n0) := hb5.cell 0; have y51 : w5.cell? ⟨A, 1, none⟩ = some (.int .u8 p0.quote.toNat) := hb5.cell 1; have f5 := hb5.f 0; have f51 := hb5.f 1; have y61 : _ = some (Value.int .u8 p0.quote.toNat) := hI6.box.cell 1; have f61 := hI6.box.f 1; have HI6 := Lib.hid hI6; have HF6 := Lib.hid (HF0.out.trans hF6); clear hI6 hF6 hg hown hwB hb5)
                    go_at_call 27
                    with_reducible refine (must_ok _ _).mono ?_
                    rintro e wm ⟨rfl, hwm⟩
                    subst hwm
                    go_wp2_with fail
                    go_returns
                    exact EndsT.good (l := l0) (HE.out.trans (by unfold addT; rw [List.append_nil])) ((by have := HI6.out; rw [HWT.out] at this; exact this : Inv _ base bt A C { p0 with wait := 60 :: l1 } (ts ++ l0) _ vo vout0 cells0).setFlag (p' := { p0 with wait := 60 :: l1, quote := c }) 1 (.int .u8 c.toNat) rfl rfl rfl) (HF6.out.trans (Fr.setA A base bt 1 _ _))
                  · rw [decide_eq_false h34] at e34
                    by_cases h62 : c = 62
                    · rw [decide_eq_true h62] at e62
                      have H62 := Lib.hid h62
                      clear h62
                      have HE := Lib.hid (HRR.out.trans (congrArg (addT l0) (takeT_tag HWT.out (by omega) hq hq0 (by rintro (h | h); exact h39 h; exact h34 h) H62.out)))
                      go_wp2_with (at_builtin; refine wpList_append_own _ rfl (.tmp 48) (.tmp 50) 22 rfl base 5 i0 _ 1 1 Tryd.underlying22 HII.out.1 HII.out.2.1 HII.out.2.2.1 HII.out.2.2.2 rfl (by omega) (.slice s0 p0.wait.length n0) p0.wait.length (cellsB p0.wait) rfl HAP.out.1 ⟨wc.heap.size, 0, none⟩ 1 1 [.int .u8 c.toNat] rfl rfl HAP.out.2.1 (by simp [Value.oneCell']) (by have := HWL.out; simp only [maxLen]; omega) (by have := HWL.out; omega) (Nat.le_trans HBS.out HAP.out.2.2.size) ?_; intro v5 w5 hown hg _; obtain ⟨s5, n5, rfl⟩ := row_slice hown; have hwB : OwnB w5 base 5 (.slice s5 (p0.wait.length + 1) n5) (p0.wait ++ [c]) := (by unfold OwnB; rw [List.length_append, cellsB_append]; exact hown); obtain ⟨hI6, hF6, hb5⟩ := HGR.out w5 _ _ (grown_alloc hg) hwB; obtain ⟨g5, rfl, hc6⟩ := headAt hI6.wait HWT.out; have y5 : w5.cell? ⟨A, 0, none⟩ = some (.slice s0 p0.wait.length n0) := hb5.cell 0; have y51 : w5.cell? ⟨A, 1, none⟩ = some (.int .u8 p0.quote.toNat) := hb5.cell 1; have f5 := hb5.f 0; have f51 := hb5.f 1; have y61 : _ = some (Value.int .u8 p0.quote.toNat) := hI6.box.cell 1; have f61 := hI6.box.f 1; have HI6 := Lib.hid hI6; have HF6 := Lib.hid (HF0.out.trans hF6); clear hI6 hF6 hg hown hwB hb5)
                      go_at_call 27
                      with_reducible refine (must_ok _ _).mono ?_
                      rintro e wm ⟨rfl, hwm⟩
                      subst hwm
                      go_wp2_with fail
                      have h2 : 1 ≤ l1.length := by
                        have h1 := HLEN.out
                        have h3 := HWT.out
                        cases hpw : p0.wait with
                        | nil =>
                          rw [hpw] at h3
                          injection h3 with h3 _
                          rw [H62.out] at h3
                          exact absurd h3 (by decide)
                        | cons b l =>
                          rw [hpw] at h1
                          simp at h1
                          omega
                      have H2 := Lib.hid h2
                      clear h2
                      have HP := Lib.hid (piece_any A _ _ vo _ _ _ _ _ HI6.out.box (own_mono HI6.out.wait (Nat.zero_le _)))
                      go_at_call 26
                      with_reducible refine HP.out.mono ?_
                      rintro e w7 ⟨rfl, hw7⟩
                      have hI7 := HI6.out.setWait (base' := base) (.slice none 0 0) [] (OwnB.nil _ _ _)
                      have hF7 := HF6.out.trans (Fr.setA A base bt 0 (.slice none 0 0) _)
                      rw [← hw7] at hI7 hF7
                      have HI7 := Lib.hid hI7
                      have HF7 := Lib.hid hF7
                      clear hI7 hF7 hw7
                      have hTG := tag_any base bt A C { p0 with wait := [] } (ts ++ l0) _ vo vout0 cells0 ⟨(60 :: l1).toArray⟩ w7 HI7.out (by rw [Lib.size_eq]; show 2 ≤ l1.length + 1; have := H2.out; omega) (by rw [Lib.size_eq]; show l1.length + 1 ≤ 4096; omega) (Nat.le_trans hb HF7.out.size) (by rw [List.length_append]; have := HSZ.out.2.2; omega) (by show p0.opn.length ≤ _; rw [HSZ.out.2.1]; omega)
                      rw [← HWT.out] at hTG
                      have hnz := tagP_nz (p := { p0 with wait := [] }) (s := ⟨(60 :: l1).toArray⟩)
                      have hE := HE.out
                      rw [← HWT.out] at hnz hE
                      unfold tellV at hTG
                      generalize tagP { p0 with wait := [] } ⟨(p0.wait ++ [c]).toArray⟩ = R at hTG hnz hE
                      have HTG := Lib.hid hTG
                      have HE2 := Lib.hid hE
                      clear hTG hE HE
                      cases R with
                      | error k =>
                        have HNZ := Lib.hid (hnz k rfl)
                        clear hnz
                        go_wp2_with fail
                        with_reducible refine HTG.out.mono ?_
                        rintro e w8 ⟨rfl, hB8⟩
                        unfold panic1
                        go_wp2_with fail
                        exact ⟨rfl, EndsT.bad (l := l0) (k := k) (HE2.out.trans (by unfold addT tagEnd; rw [List.append_nil])) HNZ.out (HI7.out.below hB8) (HF7.out.trans (Fr.below hB8))⟩
                      | ok y =>
                        obtain ⟨p', l⟩ := y
                        clear hnz
                        go_wp2_with fail
                        with_reducible refine HTG.out.mono ?_
                        rintro e w8 ⟨rfl, vo8, v8, cs8, hI8, hF8⟩
                        have z4 : w8.cell? ⟨A, 4, none⟩ = some (.bool p'.begun) := hI8.box.cell 4
                        have f4 := hI8.box.f 4
                        rw [List.append_assoc] at hI8
                        have HI8 := Lib.hid hI8
                        have HF8 := Lib.hid (HF7.out.trans hF8)
                        clear hI8 hF8
                        go_wp2_with fail
                        go_returns
                        exact EndsT.good (l := l0 ++ l) (HE2.out.trans (by unfold addT tagEnd; rfl)) (HI8.out.setFlag (p' := { p' with begun := true }) 4 (.bool true) rfl rfl rfl) (HF8.out.trans (Fr.setA A base bt 4 _ w8))
                    · rw [decide_eq_false h62] at e62
                      have HE := Lib.hid (HRR.out.trans (congrArg (addT l0) (takeT_other HWT.out hl hq hq0 (by rintro (h | h); exact h39 h; exact h34 h) h62)))
                      go_wp2_with (at_builtin; refine wpList_append_own _ rfl (.tmp 48) (.tmp 50) 22 rfl base 5 i0 _ 1 1 Tryd.underlying22 HII.out.1 HII.out.2.1 HII.out.2.2.1 HII.out.2.2.2 rfl (by omega) (.slice s0 p0.wait.length n0) p0.wait.length (cellsB p0.wait) rfl HAP.out.1 ⟨wc.heap.size, 0, none⟩ 1 1 [.int .u8 c.toNat] rfl rfl HAP.out.2.1 (by simp [Value.oneCell']) (by have := HWL.out; simp only [maxLen]; omega) (by have := HWL.out; omega) (Nat.le_trans HBS.out HAP.out.2.2.size) ?_; intro v5 w5 hown hg _; obtain ⟨s5, n5, rfl⟩ := row_slice hown; have hwB : OwnB w5 base 5 (.slice s5 (p0.wait.length + 1) n5) (p0.wait ++ [c]) := (by unfold OwnB; rw [List.length_append, cellsB_append]; exact hown); obtain ⟨hI6, hF6, hb5⟩ := HGR.out w5 _ _ (grown_alloc hg) hwB; obtain ⟨g5, rfl, hc6⟩ := headAt hI6.wait HWT.out; have y5 : w5.cell? ⟨A, 0, none⟩ = some (.slice s0 p0.wait.length n0) := hb5.cell 0; have y51 : w5.cell? ⟨A, 1, none⟩ = some (.int .u8 p0.quote.toNat) := hb5.cell 1; have f5 := hb5.f 0; have f51 := hb5.f 1; have y61 : _ = some (Value.int .u8 p0.quote.toNat) := hI6.box.cell 1; have f61 := hI6.box.f 1; have HI6 := Lib.hid hI6; have HF6 := Lib.hid (HF0.out.trans hF6); clear hI6 hF6 hg hown hwB hb5)
                      go_at_call 27
                      with_reducible refine (must_ok _ _).mono ?_
                      rintro e wm ⟨rfl, hwm⟩
                      subst hwm
                      go_wp2_with fail
                      go_returns
                      exact EndsT.good (l := l0) (HE.out.trans (by unfold addT; rw [List.append_nil])) (by have := HI6.out; rw [HWT.out] at this; exact this) HF6.out
              · rw [decide_eq_false hq0] at eq0
                change _ = true at eq0
                have HE := Lib.hid (HRR.out.trans (congrArg (addT l0) (takeT_in HWT.out hl hq hq0)))
                go_wp2_with (at_builtin; refine wpList_append_own _ rfl (.tmp 48) (.tmp 50) 22 rfl base 5 i0 _ 1 1 Tryd.underlying22 HII.out.1 HII.out.2.1 HII.out.2.2.1 HII.out.2.2.2 rfl (by omega) (.slice s0 p0.wait.length n0) p0.wait.length (cellsB p0.wait) rfl HAP.out.1 ⟨wc.heap.size, 0, none⟩ 1 1 [.int .u8 c.toNat] rfl rfl HAP.out.2.1 (by simp [Value.oneCell']) (by have := HWL.out; simp only [maxLen]; omega) (by have := HWL.out; omega) (Nat.le_trans HBS.out HAP.out.2.2.size) ?_; intro v5 w5 hown hg _; obtain ⟨s5, n5, rfl⟩ := row_slice hown; have hwB : OwnB w5 base 5 (.slice s5 (p0.wait.length + 1) n5) (p0.wait ++ [c]) := (by unfold OwnB; rw [List.length_append, cellsB_append]; exact hown); obtain ⟨hI6, hF6, hb5⟩ := HGR.out w5 _ _ (grown_alloc hg) hwB; obtain ⟨g5, rfl, hc6⟩ := headAt hI6.wait HWT.out; have y5 : w5.cell? ⟨A, 0, none⟩ = some (.slice s0 p0.wait.length n0) := hb5.cell 0; have y51 : w5.cell? ⟨A, 1, none⟩ = some (.int .u8 p0.quote.toNat) := hb5.cell 1; have f5 := hb5.f 0; have f51 := hb5.f 1; have y61 : _ = some (Value.int .u8 p0.quote.toNat) := hI6.box.cell 1; have f61 := hI6.box.f 1; have HI6 := Lib.hid hI6; have HF6 := Lib.hid (HF0.out.trans hF6); clear hI6 hF6 hg hown hwB hb5)
                go_at_call 27
                with_reducible refine (must_ok _ _).mono ?_
                rintro e wm ⟨rfl, hwm⟩
                subst hwm
                go_wp2_with fail
                go_returns
                exact EndsT.good (l := l0) (HE.out.trans (by unfold addT; rw [List.append_nil])) (by have := HI6.out; rw [HWT.out] at this; exact this) HF6.out
        · have eb := u8n b0 60
          rw [decide_eq_false hb0] at eb
          change ((b0.toNat : Int) != 60) = true at eb
          by_cases hl : l1.length + 1 ≤ 512
          · have c1 : decide ((p0.wait.length : Int) + 1 ≤ 512) = true := by have := HLEN.out; simp; omega
            have HE := Lib.hid (HRR.out.trans (congrArg (addT l0) (takeT_text HWT.out hb0)))
            go_wp2_with (at_builtin; refine wpList_append_own _ rfl (.tmp 48) (.tmp 50) 22 rfl base 5 i0 _ 1 1 Tryd.underlying22 HII.out.1 HII.out.2.1 HII.out.2.2.1 HII.out.2.2.2 rfl (by omega) (.slice s0 p0.wait.length n0) p0.wait.length (cellsB p0.wait) rfl HAP.out.1 ⟨wc.heap.size, 0, none⟩ 1 1 [.int .u8 c.toNat] rfl rfl HAP.out.2.1 (by simp [Value.oneCell']) (by have := HWL.out; simp only [maxLen]; omega) (by have := HWL.out; omega) (Nat.le_trans HBS.out HAP.out.2.2.size) ?_; intro v5 w5 hown hg _; obtain ⟨s5, n5, rfl⟩ := row_slice hown; have hwB : OwnB w5 base 5 (.slice s5 (p0.wait.length + 1) n5) (p0.wait ++ [c]) := (by unfold OwnB; rw [List.length_append, cellsB_append]; exact hown); obtain ⟨hI6, hF6, hb5⟩ := HGR.out w5 _ _ (grown_alloc hg) hwB; obtain ⟨g5, rfl, hc6⟩ := headAt hI6.wait HWT.out; have y5 : w5.cell? ⟨A, 0, none⟩ = some (.slice s0 p0.wait.length n0) := hb5.cell 0; have y51 : w5.cell? ⟨A, 1, none⟩ = some (.int .u8 p0.quote.toNat) := hb5.cell 1; have f5 := hb5.f 0; have f51 := hb5.f 1; have y61 : _ = some (Value.int .u8 p0.quote.toNat) := hI6.box.cell 1; have f61 := hI6.box.f 1; have HI6 := Lib.hid hI6; have HF6 := Lib.hid (HF0.out.trans hF6); clear hI6 hF6 hg hown hwB hb5)
            go_at_call 27
            with_reducible refine (must_ok _ _).mono ?_
            rintro e wm ⟨rfl, hwm⟩
            subst hwm
            go_wp2_with fail
            go_returns
            exact EndsT.good (l := l0) (HE.out.trans (by unfold addT; rw [List.append_nil, if_pos (by simpa using hl)])) (by have := HI6.out; rw [HWT.out] at this; exact this) HF6.out
          · have c1 : decide ((p0.wait.length : Int) + 1 ≤ 512) = false := by have := HLEN.out; simp; omega
            have HE := Lib.hid (HRR.out.trans (congrArg (addT l0) (takeT_text HWT.out hb0)))
            go_wp2_with (at_builtin; refine wpList_append_own _ rfl (.tmp 48) (.tmp 50) 22 rfl base 5 i0 _ 1 1 Tryd.underlying22 HII.out.1 HII.out.2.1 HII.out.2.2.1 HII.out.2.2.2 rfl (by omega) (.slice s0 p0.wait.length n0) p0.wait.length (cellsB p0.wait) rfl HAP.out.1 ⟨wc.heap.size, 0, none⟩ 1 1 [.int .u8 c.toNat] rfl rfl HAP.out.2.1 (by simp [Value.oneCell']) (by have := HWL.out; simp only [maxLen]; omega) (by have := HWL.out; omega) (Nat.le_trans HBS.out HAP.out.2.2.size) ?_; intro v5 w5 hown hg _; obtain ⟨s5, n5, rfl⟩ := row_slice hown; have hwB : OwnB w5 base 5 (.slice s5 (p0.wait.length + 1) n5) (p0.wait ++ [c]) := (by unfold OwnB; rw [List.length_append, cellsB_append]; exact hown); obtain ⟨hI6, hF6, hb5⟩ := HGR.out w5 _ _ (grown_alloc hg) hwB; obtain ⟨g5, rfl, hc6⟩ := headAt hI6.wait HWT.out; have y5 : w5.cell? ⟨A, 0, none⟩ = some (.slice s0 p0.wait.length n0) := hb5.cell 0; have y51 : w5.cell? ⟨A, 1, none⟩ = some (.int .u8 p0.quote.toNat) := hb5.cell 1; have f5 := hb5.f 0; have f51 := hb5.f 1; have y61 : _ = some (Value.int .u8 p0.quote.toNat) := hI6.box.cell 1; have f61 := hI6.box.f 1; have HI6 := Lib.hid hI6; have HF6 := Lib.hid (HF0.out.trans hF6); clear hI6 hF6 hg hown hwB hb5)
            go_at_call 27
            with_reducible refine (must_no 5 _).mono ?_
            rintro e wm ⟨rfl, hwm⟩
            subst hwm
            go_wp2_with fail
            exact ⟨rfl, EndsT.bad (l := l0) (k := 5) (HE.out.trans (by unfold addT; rw [List.append_nil, if_neg (by simpa using hl)])) (by decide) (by have := HI6.out; rw [HWT.out] at this; exact this) HF6.out⟩
end Go.Proofs.YtppgjkjdddanbaaDoor
