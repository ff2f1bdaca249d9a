/- slices.BinarySearchFunc, slices.Insert, node.set at the structs of a node. Written by gen_n7.py. -/
import Derived.Test.YtpjaopcgoaannaaGreatDoorN4
import Derived.Test.YtpjaopcgoaannaaGreatDoorN6
import Derived.Test.YtpjaopcgoaannaaGreatDoorSh
import Derived.Shelf.Spec.SlicesInsert
namespace Go.Proofs.YtpjaopcgoaannaaGreatDoor
open Go.RowKit
open Hb

theorem cmp_neg : ∀ a b : List UInt8, decide (Lib.compareBytes a b < 0) = Op.bytesLess a b
  | [], [] => rfl
  | [], _ :: _ => rfl
  | _ :: _, [] => rfl
  | a :: x, b :: y => by
    have ih := cmp_neg x y
    unfold Lib.compareBytes Op.bytesLess
    by_cases h : a < b
    · simp [h]
    · by_cases h2 : b < a
      · have : ¬ a = b := fun e => by rw [e] at h2; exact absurd h2 (UInt8.lt_irrefl _)
        simp [h, h2, this]
      · have : a = b := by
          rw [UInt8.lt_iff_toNat_lt] at *
          exact UInt8.toNat.inj (by omega)
        subst this
        simpa [h] using ih
theorem cmp_zero : ∀ a b : List UInt8, (Lib.compareBytes a b == 0) = (a == b)
  | [], [] => rfl
  | [], _ :: _ => rfl
  | _ :: _, [] => rfl
  | a :: x, b :: y => by
    have ih := cmp_zero x y
    unfold Lib.compareBytes
    by_cases h : a < b
    · have : ¬ a = b := fun e => by rw [e] at h; exact absurd h (UInt8.lt_irrefl _)
      simp [h, this]
    · by_cases h2 : b < a
      · have : ¬ a = b := fun e => by rw [e] at h2; exact absurd h2 (UInt8.lt_irrefl _)
        simp [h, h2, this]
      · have : a = b := by
          rw [UInt8.lt_iff_toNat_lt] at *
          exact UInt8.toNat.inj (by omega)
        subst this
        simpa [h] using ih
def cmpZ (a b : ByteArray) : Int := Lib.compareBytes a.data.toList b.data.toList
theorem cmpZ_neg (a b : ByteArray) : decide (cmpZ a b < 0) = ltS a b := by
  unfold cmpZ ltS
  rw [cmp_neg, ByteArray.toList_eq, ByteArray.toList_eq]
theorem cmpZ_zero (a b : ByteArray) : (cmpZ a b == 0) = eqS a b := by
  unfold cmpZ eqS
  rw [cmp_zero, ByteArray.toList_eq, ByteArray.toList_eq]

/-- what a comparison with a text answers -/
def CmpB {α : Type} (enc : α → List Value) (of : α → ByteArray) (g : Nat) (lb : Array Value) (t : ByteArray) (w : World) : Prop := ∀ x W, Below w.heap.size w W → Calls Tryz.prog g (#[.agg (enc x).toArray, .string t] ++ lb) W fun e w' => e = .returned (.int .i64 (cmpZ (of x) t)) ∧ Below W.heap.size W w'
/-- what a function of one answers -/
def OfB {α : Type} (enc : α → List Value) (of : α → ByteArray) (g : Nat) (lb : Array Value) (w : World) : Prop := ∀ x W, w.heap.size ≤ W.heap.size → Calls Tryz.prog g (#[.agg (enc x).toArray] ++ lb) W fun e w' => e = .returned (.string (of x)) ∧ Below W.heap.size W w'

theorem mid_lt (lo hi : Nat) (h : lo < hi) : lo ≤ (lo + hi) / 2 ∧ (lo + hi) / 2 < hi := by omega
theorem shr_one (n : Nat) (_h : n ≤ 400000000) : ((n : Int) >>> 1) = ((n / 2 : Nat) : Int) := by
  rw [Int.shiftRight_eq_div_pow]
  omega

theorem affOf_any (x : PAff) (w : World) : Calls Tryz.prog 25 #[.agg x.enc.toArray] w fun e w' => e = .returned (.string x.jid) ∧ Below w.heap.size w w' := by
  unfold PAff.enc
  generalize x.jid = a
  generalize x.role = a1
  go_enter Tryz.func25, Tryz.ntmps25
  go_wp2_with fail
  go_returns
  exact ⟨rfl, (Below.refl _ _).alloc (Nat.le_refl _) _⟩

theorem subOf_any (x : PSub) (w : World) : Calls Tryz.prog 27 #[.agg x.enc.toArray] w fun e w' => e = .returned (.string x.jid) ∧ Below w.heap.size w w' := by
  unfold PSub.enc
  generalize x.jid = a
  generalize x.pending = a1
  generalize x.depth = a2
  go_enter Tryz.func27, Tryz.ntmps27
  go_wp2_with fail
  go_returns
  exact ⟨rfl, (Below.refl _ _).alloc (Nat.le_refl _) _⟩

set_option maxRecDepth 100000 in
set_option maxHeartbeats 4000000 in
theorem bsSub_any (g : Nat) (lb : Array Value) (eg : ∀ args w, (callFunc g args).run Tryz.prog w = .ok (.enter g args) w) (t : ByteArray) (v : Value) (l : List PSub) (w : World) (hv : SlE PSub.enc 3 w v l) (hr : Ris PSub.jid l) (hp : CmpB PSub.enc PSub.jid g lb t w) (hn : l.length ≤ 100000000) :
    Calls Tryz.prog 58 #[v, .string t, .func (.func g) #[] lb] w fun e w' => ∃ i : Nat, ∃ is : Bool, e = .returned (.tuple #[.int .i64 i, .bool is]) ∧ Below w.heap.size w w' ∧ i ≤ l.length ∧ (∀ j (h : j < l.length), j < i → ltS l[j].jid t = true) ∧ (∀ j (h : j < l.length), i ≤ j → ltS l[j].jid t = false) ∧ is = (if h : i < l.length then eqS l[i].jid t else false) := by
  obtain ⟨A, c, rfl, hc, hcell⟩ := hv
  have HR : Hid (Ris PSub.jid l) := hr
  clear hr
  go_enter Tryz.func58, Tryz.ntmps58
  go_wp2
  go_loopw [9, 10, 11] (fun a b _ W => ∃ lo hi : Nat, a = .int .i64 lo ∧ b = .int .i64 hi ∧ lo ≤ hi ∧ hi ≤ l.length ∧ Hid ((∀ j (h : j < l.length), j < lo → ltS l[j].jid t = true) ∧ (∀ j (h : j < l.length), hi ≤ j → ltS l[j].jid t = false)) ∧ Below w.heap.size w W) (fun a b _ _ => (intOf b).toNat - (intOf a).toNat)
  case atStart => exact ⟨0, l.length, rfl, rfl, Nat.zero_le _, Nat.le_refl _, ⟨fun j h hj => absurd hj (Nat.not_lt_zero _), fun j h hj => absurd h (by omega)⟩, Below.refl _ w⟩
  case round =>
    obtain ⟨lo, hi, rfl, rfl, hlh, hhn, HC, hW⟩ := hrel
    by_cases hlt : lo < hi
    · rcases hcell with h0 | ⟨B, off, rfl, hB, hcell⟩
      · subst h0; simp at hhn; omega
      obtain ⟨m, hm⟩ : ∃ m, m = (lo + hi) / 2 := ⟨_, rfl⟩
      have hml : lo ≤ m ∧ m < hi := by omega
      have hmn : m < l.length := by omega
      have hx := fun j hj => (hW.cell (p := ⟨B, off + m * 3 + j, none⟩) hB).trans (hcell m hmn j hj)
      obtain ⟨x, hxe⟩ : ∃ x, x = l[m] := ⟨_, rfl⟩
      rw [← hxe] at hx
      have y0 : wr.cell? ⟨B, off + m * 3, none⟩ = some (.string x.jid) := hx 0 (by omega)
      have y1 : wr.cell? ⟨B, off + m * 3 + 1, none⟩ = some (.bool x.pending) := hx 1 (by omega)
      have y2 : wr.cell? ⟨B, off + m * 3 + 2, none⟩ = some (.int .i64 x.depth) := hx 2 (by omega)
      rw [show off + m * 3 = off + (lo + hi) / 2 * 3 by rw [hm]] at y0
      rw [show off + m * 3 + 1 = off + (lo + hi) / 2 * 3 + 1 by rw [hm]] at y1
      rw [show off + m * 3 + 2 = off + (lo + hi) / 2 * 3 + 2 by rw [hm]] at y2
      have HP : Hid (Calls Tryz.prog g (#[.agg #[.string x.jid, .bool x.pending, .int .i64 x.depth], .string t] ++ lb) wr fun e w' => e = .returned (.int .i64 (cmpZ x.jid t)) ∧ Below wr.heap.size wr w') := hp x wr hW
      have HZ := Lib.hid (cmpZ_neg x.jid t)
      generalize cmpZ x.jid t = z at HP HZ
      have HM := Lib.hid hm
      have HX := Lib.hid hxe
      clear hx hcell hm hxe
      go_wp2_with fail
      go_at_fn g
      with_reducible refine HP.out.mono ?_
      rintro e w1 ⟨rfl, hB1⟩
      cases hq : decide (z < 0) with
      | true =>
        have hz : z < 0 := by simpa using hq
        have hlm : ltS l[m].jid t = true := by rw [← HX.out, ← HZ.out]; exact hq
        have HN : Hid ((∀ j (h : j < l.length), j < m + 1 → ltS l[j].jid t = true) ∧ (∀ j (h : j < l.length), hi ≤ j → ltS l[j].jid t = false)) := ⟨fun j h hj => HR.out.mono t j m (by omega) hmn hlm, HC.out.2⟩
        clear hlm hq
        go_wp2_with fail
        go_roundw
        case rel => exact ⟨m + 1, hi, by rw [HM.out]; rfl, rfl, by omega, hhn, HN, hW.trans (hB1.mono hW.size)⟩
        case measure => simp [intOf]; omega
      | false =>
        have hz : ¬ z < 0 := by simpa using hq
        have hlm : ltS l[m].jid t = false := by rw [← HX.out, ← HZ.out]; exact hq
        have HN : Hid ((∀ j (h : j < l.length), j < lo → ltS l[j].jid t = true) ∧ (∀ j (h : j < l.length), m ≤ j → ltS l[j].jid t = false)) := ⟨HC.out.1, fun j h hj => by
          cases hk : ltS l[j].jid t with
          | false => rfl
          | true => rw [HR.out.mono t m j hj h hk] at hlm; cases hlm⟩
        clear hlm hq
        go_wp2_with fail
        go_roundw
        case rel => exact ⟨lo, m, rfl, by rw [HM.out]; rfl, by omega, by omega, HN, hW.trans (hB1.mono hW.size)⟩
        case measure => simp [intOf]; omega
    · have hkl : hi = lo := by omega
      subst hkl
      by_cases hin : hi < l.length
      · rcases hcell with h0 | ⟨B, off, rfl, hB, hcell⟩
        · subst h0; simp at hin
        have hx := fun j hj => (hW.cell (p := ⟨B, off + hi * 3 + j, none⟩) hB).trans (hcell hi hin j hj)
        have y0 : wr.cell? ⟨B, off + hi * 3, none⟩ = some (.string l[hi].jid) := hx 0 (by omega)
        have y1 : wr.cell? ⟨B, off + hi * 3 + 1, none⟩ = some (.bool l[hi].pending) := hx 1 (by omega)
        have y2 : wr.cell? ⟨B, off + hi * 3 + 2, none⟩ = some (.int .i64 l[hi].depth) := hx 2 (by omega)
        have HP : Hid (Calls Tryz.prog g (#[.agg #[.string l[hi].jid, .bool l[hi].pending, .int .i64 l[hi].depth], .string t] ++ lb) wr fun e w' => e = .returned (.int .i64 (cmpZ l[hi].jid t)) ∧ Below wr.heap.size wr w') := hp l[hi] wr hW
        have HZ := Lib.hid (cmpZ_zero l[hi].jid t)
        generalize cmpZ l[hi].jid t = z at HP HZ
        clear hx hcell
        go_wp2_with fail
        go_at_fn g
        with_reducible refine HP.out.mono ?_
        rintro e w1 ⟨rfl, hB1⟩
        go_wp2_with fail
        go_returns
        refine ⟨hi, _, rfl, hW.trans (hB1.mono hW.size), hhn, HC.out.1, HC.out.2, ?_⟩
        rw [dif_pos hin, ← HZ.out]
      · go_wp2_with fail
        go_returns
        refine ⟨hi, false, rfl, hW, hhn, HC.out.1, HC.out.2, ?_⟩
        rw [dif_neg hin]

theorem PAff.one1 (x : PAff) : ∀ u ∈ x.enc, u.oneCell' = true := by
  intro u hu
  exact PAff.one [x] u (by simpa using hu)
theorem PSub.one1 (x : PSub) : ∀ u ∈ x.enc, u.oneCell' = true := by
  intro u hu
  exact PSub.one [x] u (by simpa using hu)
set_option maxRecDepth 100000 in
set_option maxHeartbeats 4000000 in
theorem insSub_end (base : Nat) (v : Value) (l : List PSub) (x : PSub) (vb : Nat) (w : World) (hown : OwE PSub.enc 3 w base 51 v l) (hb : base ≤ w.heap.size) (hn : l.length ≤ 1000000) (hx : RowI w vb 51 3 x.enc) :
    Calls Tryz.prog 61 #[v, .int .i64 l.length, .slice (some ⟨vb, 0, none⟩) 1 1] w fun e w' => ∃ v', e = .returned v' ∧ OwE PSub.enc 3 w' base 51 v' (l ++ [x]) ∧ w.grownBy w' v.ownBlock := by
  obtain ⟨i0, hi, hz0, hz1, hz2⟩ := info_parts infoSub
  have hfin : ∀ v' w', w'.ownsRow base 51 3 v' (l.length + 1) (l.flatMap PSub.enc ++ x.enc) → OwE PSub.enc 3 w' base 51 v' (l ++ [x]) := fun v' w' h => by
    unfold OwE
    rw [List.length_append, List.flatMap_append]
    simpa using h
  have hcells : ∀ j u, x.enc[j]? = some u → w.cell? ((⟨vb, 0, none⟩ : Addr).add j) = some u := fun j u hj => by
    have ha : (⟨vb, 0, none⟩ : Addr).add j = ⟨vb, j, none⟩ := by unfold Addr.add; split <;> simp_all
    rw [ha]
    exact hx.at j u hj
  have HH := Lib.hid (And.intro hcells hfin)
  have HO : Hid (w.ownsRow base 51 3 v l.length (l.flatMap PSub.enc)) := hown
  clear hcells hfin hx
  rcases hown.2 with ⟨rfl, h0⟩ | ⟨g, c, cur, rfl, e2, e3, e4, e5, e6, e7⟩
  · clear hown
    rw [h0]
    go_enter Tryz.func61, Tryz.ntmps61
    go_wp2_with (at_builtin; refine wpList_append_own _ rfl (.tmp 23) (.tmp 24) 24 rfl base 51 i0 (.agg #[.string ⟨#[]⟩, .bool false, .int .i64 0]) 3 32 Tryz.underlying24 hi hz0 hz1 hz2 rfl (by omega) (.slice none 0 0) l.length (l.flatMap PSub.enc) rfl HO.out ⟨vb, 0, none⟩ 1 1 x.enc rfl rfl HH.out.1 (PSub.one1 x) (by simp only [maxLen]; omega) (by omega) hb ?_; intro v1 w1 hown1 hg _; obtain ⟨q1, q2, rfl⟩ := row_slice hown1)
    go_returns
    have hf := HH.out.2 _ _ hown1
    rw [h0] at hf
    exact ⟨_, rfl, hf, hg⟩
  · clear hown e3 e6 e7
    have hcm : c ≤ 9223372036854775807 := by unfold maxLen at e5; omega
    go_enter Tryz.func61, Tryz.ntmps61
    go_wp2_with (at_builtin; refine wpList_append_own _ rfl (.tmp 23) (.tmp 24) 24 rfl base 51 i0 (.agg #[.string ⟨#[]⟩, .bool false, .int .i64 0]) 3 32 Tryz.underlying24 hi hz0 hz1 hz2 rfl (by omega) (.slice (some ⟨g, 0, none⟩) l.length c) l.length (l.flatMap PSub.enc) rfl HO.out ⟨vb, 0, none⟩ 1 1 x.enc rfl rfl HH.out.1 (PSub.one1 x) (by simp only [maxLen]; omega) (by omega) hb ?_; intro v1 w1 hown1 hg _; obtain ⟨q1, q2, rfl⟩ := row_slice hown1)
    all_goals go_returns
    all_goals exact ⟨_, rfl, HH.out.2 _ _ hown1, hg⟩
end Go.Proofs.YtpjaopcgoaannaaGreatDoor
