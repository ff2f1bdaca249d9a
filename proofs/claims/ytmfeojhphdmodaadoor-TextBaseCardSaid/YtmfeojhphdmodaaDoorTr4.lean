/- The reference of Unbase64: what it answers, for every text. -/
import Derived.Test.YtmfeojhphdmodaaDoorTp
import Derived.Test.YtmfeojhphdmodaaDoorTx4
import Derived.Test.YtmfeojhphdmodaaDoorTr3
namespace Go.Proofs.YtmfeojhphdmodaaDoor
open Go.RowKit
open Hb

theorem dig_inj : ∀ i, i < 64 → ∀ j, j < 64 → dig i = dig j → i = j := by decide +kernel
theorem place_hit (c : UInt8) (i : Nat) (hi : i < 64) (h : dig i = c) : place c = i := by rw [← h, (dig_table i hi).1]
theorem place_miss (c : UInt8) (h : ∀ i, i < 64 → dig i ≠ c) : place c = -1 := by
  unfold place
  rcases idx_cut c alpha with ⟨k, -, -⟩ | ⟨i, hi, -, -, -, hl⟩
  · exact k
  · exfalso
    have h64 : i < 64 := hi
    refine h i h64 ?_
    unfold dig
    have : alpha[i]? = some c := by
      conv => lhs; rw [hl]
      rw [List.getElem?_append_right (by simp; omega)]
      simp [Nat.min_eq_left (Nat.le_of_lt hi)]
    rw [List.getD_eq_getElem?_getD, this]
    rfl

set_option maxHeartbeats 1000000 in
theorem refPlace_any (c : UInt8) (w : World) : Calls Tryd.prog 36 #[.int .u8 c.toNat] w fun e w' => e = .returned (.int .i64 (place c)) ∧ w' = w := by
  go_enter Tryd.func36, Tryd.ntmps36
  go_wp2_with fail
  go_loop [3] (fun i => ∃ k : Nat, k ≤ 64 ∧ i = .int .i64 k ∧ Hid (∀ q, q < k → dig q ≠ c)) (fun i => 64 - (intOf i).toNat)
  case atStart => exact ⟨0, by omega, rfl, fun q hq => absurd hq (by omega)⟩
  case round =>
    obtain ⟨k, hk, rfl, HC⟩ := hrel
    by_cases hlt : k < 64
    · have hd := dig_at k hlt
      by_cases hc : dig k = c
      · have HP : Hid (place c = k) := place_hit c k hlt hc
        have e : ((dig k).toNat : Int) == (c.toNat : Int) := by rw [hc]; exact beq_self_eq_true _
        clear HC
        go_wp2_with fail
        go_ret
        exact ⟨by rw [HP.out]; rfl, rfl⟩
      · have e : (((dig k).toNat : Int) == (c.toNat : Int)) = false := by
          rw [beq_eq_false_iff_ne]
          intro h
          exact hc (UInt8.toNat_inj.1 (by omega))
        have HC1 : Hid (∀ q, q < k + 1 → dig q ≠ c) := fun q hq => by
          rcases (by omega : q < k ∨ q = k) with h | rfl
          · exact HC.out q h
          · exact hc
        clear HC
        go_wp2_with fail
        go_round
        case rel => exact ⟨k + 1, by omega, by go_num, HC1⟩
        case measure => simp [intOf]; omega
    · have HP : Hid (place c = -1) := place_miss c fun q hq => HC.out q (by omega)
      clear HC
      go_wp2_with fail
      go_ret
      exact ⟨by rw [HP.out]; rfl, rfl⟩

/-! ### what it makes of a text -/
def val (c : UInt8) : Int := if c = 61 then 0 else place c
def cnt (c : UInt8) : Nat := if c = 61 then 0 else 1
def ub (x : Int) : UInt8 := UInt8.ofNat (x % 256).toNat
def bytesOf (n : Int) : List UInt8 := [ub (n / 65536), ub (n / 256), ub n]
def grp (a b c d : UInt8) : List UInt8 := (bytesOf (((val a * 64 + val b) * 64 + val c) * 64 + val d)).take (cnt a + cnt b + cnt c + cnt d - 1)
def rdec : List UInt8 → List UInt8
  | a :: b :: c :: d :: l => grp a b c d ++ rdec l
  | _ => []

theorem ub_val (x : Int) : ((ub x).toNat : Int) = x % 256 := by
  unfold ub
  simp
  omega
theorem ub_eq (x : Int) (c : UInt8) (h : x % 256 = c.toNat) : ub x = c := by
  unfold ub
  rw [h]
  simp
theorem val_dig (n : Nat) (h : n < 64) : val (dig n) = n ∧ cnt (dig n) = 1 := by
  obtain ⟨h1, h2⟩ := dig_table n h
  unfold val cnt
  rw [if_neg h2, if_neg h2, h1]
  exact ⟨rfl, rfl⟩
theorem val_fill : val 61 = 0 ∧ cnt 61 = 0 := ⟨rfl, rfl⟩

theorem grp_one (a : UInt8) (l : List UInt8) : rdec (four 1 (a.toNat * 65536) ++ l) = [a] ++ rdec l := by
  have ha := a.toNat_lt
  obtain ⟨v0, k0⟩ := val_dig (a.toNat * 65536 / 262144 % 64) (by omega)
  obtain ⟨v1, k1⟩ := val_dig (a.toNat * 65536 / 4096 % 64) (by omega)
  show grp _ _ 61 61 ++ rdec l = _
  unfold grp
  rw [v0, v1, k0, k1, val_fill.1, val_fill.2]
  congr 1
  show [ub _] = [a]
  rw [ub_eq _ a (by omega)]
theorem grp_two (a b : UInt8) (l : List UInt8) : rdec (four 2 (a.toNat * 65536 + b.toNat * 256) ++ l) = [a, b] ++ rdec l := by
  have ha := a.toNat_lt
  have hb := b.toNat_lt
  obtain ⟨v0, k0⟩ := val_dig ((a.toNat * 65536 + b.toNat * 256) / 262144 % 64) (by omega)
  obtain ⟨v1, k1⟩ := val_dig ((a.toNat * 65536 + b.toNat * 256) / 4096 % 64) (by omega)
  obtain ⟨v2, k2⟩ := val_dig ((a.toNat * 65536 + b.toNat * 256) / 64 % 64) (by omega)
  show grp _ _ (dig _) 61 ++ rdec l = _
  unfold grp
  rw [v0, v1, v2, k0, k1, k2, val_fill.1, val_fill.2]
  congr 1
  show [ub _, ub _] = [a, b]
  rw [ub_eq _ a (by omega), ub_eq _ b (by omega)]
theorem grp_three (a b c : UInt8) (l : List UInt8) : rdec (four 3 (a.toNat * 65536 + b.toNat * 256 + c.toNat) ++ l) = [a, b, c] ++ rdec l := by
  have ha := a.toNat_lt
  have hb := b.toNat_lt
  have hc := c.toNat_lt
  obtain ⟨v0, k0⟩ := val_dig ((a.toNat * 65536 + b.toNat * 256 + c.toNat) / 262144 % 64) (by omega)
  obtain ⟨v1, k1⟩ := val_dig ((a.toNat * 65536 + b.toNat * 256 + c.toNat) / 4096 % 64) (by omega)
  obtain ⟨v2, k2⟩ := val_dig ((a.toNat * 65536 + b.toNat * 256 + c.toNat) / 64 % 64) (by omega)
  obtain ⟨v3, k3⟩ := val_dig ((a.toNat * 65536 + b.toNat * 256 + c.toNat) % 64) (by omega)
  show grp _ _ (dig _) (dig _) ++ rdec l = _
  unfold grp
  rw [v0, v1, v2, v3, k0, k1, k2, k3]
  congr 1
  show [ub _, ub _, ub _] = [a, b, c]
  rw [ub_eq _ a (by omega), ub_eq _ b (by omega), ub_eq _ c (by omega)]
theorem rdec_b64 : ∀ x : List UInt8, rdec (b64 x) = x
  | [] => rfl
  | [a] => by
    have := grp_one a []
    rw [List.append_nil] at this
    rw [b64, this]
    rfl
  | [a, b] => by
    have := grp_two a b []
    rw [List.append_nil] at this
    rw [b64, this]
    rfl
  | a :: b :: c :: l => by
    rw [b64, grp_three, rdec_b64 l]
    rfl
theorem unb_rdec (L : List UInt8) : unb L = if b64 (rdec L) = L then some (rdec L) else none := by
  by_cases h : b64 (rdec L) = L
  · rw [if_pos h]
    conv => lhs; rw [← h]
    exact unb_b64 _
  · rw [if_neg h]
    cases hu : unb L with
    | none => rfl
    | some x =>
      exfalso
      have h1 := unb_some hu
      rw [← h1, rdec_b64] at h
      exact h rfl
theorem unb_short (L : List UInt8) (h : L.length % 4 ≠ 0) : unb L = none := by
  cases hu : unb L with
  | none => rfl
  | some x =>
    exfalso
    have h1 := b64_len x
    rw [unb_some hu] at h1
    omega
theorem rdec_len : ∀ L : List UInt8, (rdec L).length ≤ L.length
  | [] => by simp [rdec]
  | [_] => by simp [rdec]
  | [_, _] => by simp [rdec]
  | [_, _, _] => by simp [rdec]
  | a :: b :: c :: d :: l => by
    have := rdec_len l
    have h3 : (grp a b c d).length ≤ 3 := by unfold grp; simp [bytesOf]; omega
    simp only [rdec, List.length_append, List.length_cons]
    omega
theorem val_cnt (c : UInt8) : (c.toNat = 61 ∧ val c = 0 ∧ cnt c = 0) ∨ (c.toNat ≠ 61 ∧ val c = place c ∧ cnt c = 1) := by
  unfold val cnt
  by_cases h : c = 61
  · subst h; left; exact ⟨rfl, rfl, rfl⟩
  · right
    rw [if_neg h, if_neg h]
    exact ⟨fun h1 => h (code_lit c 61 h1 (by omega)), rfl, rfl⟩
theorem val_range (c : UInt8) : -1 ≤ val c ∧ val c < 64 := by
  have := place_range c
  rcases val_cnt c with ⟨-, h, -⟩ | ⟨-, h, -⟩ <;> rw [h] <;> omega

set_option maxHeartbeats 8000000 in
theorem refUnbase64_any (s : ByteArray) (w : World) (hs : s.size ≤ 274877906944) :
    Calls Tryd.prog 18 #[.string s] w fun e w' => e = .returned (Told (unb s.data.toList)) ∧ Below w.heap.size w w' := by
  by_cases h4 : s.size % 4 = 0
  · have hm : (s.size : Int) % 4 = 0 := by omega
    go_enter Tryd.func18, Tryd.ntmps18
    go_wp2_with fail
    clear hm
    go_loopw [4, 5] (fun v i wr => ∃ (k : Nat) (out : List UInt8), k ≤ s.size ∧ k % 4 = 0 ∧ out.length ≤ k ∧ i = .int .i64 k ∧ Hid (rdec s.data.toList = out ++ rdec (s.data.toList.drop k)) ∧ OwnB wr w.heap.size 5 v out ∧ Below w.heap.size w wr ∧ w.heap.size ≤ wr.heap.size) (fun _ i _ => s.size - (intOf i).toNat)
    case atStart => exact ⟨0, [], by omega, rfl, by simp, rfl, rfl, OwnB.nil _ _ _, Below.refl _ _, Nat.le_refl _⟩
    case round =>
      obtain ⟨k, out, hk, hk4, hol, rfl, HC, hown, hB, hwz⟩ := hrel
      obtain ⟨wo, rfl⟩ : ∃ wo : World, wo = wr := ⟨_, rfl⟩
      by_cases hlt : k < s.size
      · have hlt3 : k + 3 < s.size := by omega
        obtain ⟨c0, hc0⟩ : ∃ c : UInt8, s[k]'(by omega) = c := ⟨_, rfl⟩
        obtain ⟨c1, hc1⟩ : ∃ c : UInt8, s[k + 1]'(by omega) = c := ⟨_, rfl⟩
        obtain ⟨c2, hc2⟩ : ∃ c : UInt8, s[k + 2]'(by omega) = c := ⟨_, rfl⟩
        obtain ⟨c3, hc3⟩ : ∃ c : UInt8, s[k + 3]'(by omega) = c := ⟨_, rfl⟩
        have hdr : s.data.toList.drop k = c0 :: c1 :: c2 :: c3 :: s.data.toList.drop (k + 4) := by
          have hLs : s.data.toList.length = s.size := (Lib.size_eq s).symm
          rw [List.drop_eq_getElem_cons (show k < s.data.toList.length by omega), List.drop_eq_getElem_cons (show k + 1 < s.data.toList.length by omega), List.drop_eq_getElem_cons (show k + 1 + 1 < s.data.toList.length by omega), List.drop_eq_getElem_cons (show k + 1 + 1 + 1 < s.data.toList.length by omega)]
          rw [data_at s k (by omega), data_at s (k + 1) (by omega), data_at s (k + 1 + 1) (by omega), data_at s (k + 1 + 1 + 1) (by omega), ← hc0, ← hc1, ← hc2, ← hc3]
        have HG : Hid (rdec s.data.toList = (out ++ grp c0 c1 c2 c3) ++ rdec (s.data.toList.drop (k + 4))) := by
          show _ = _
          rw [HC.out, hdr, List.append_assoc]
          rfl
        clear HC hdr
        have hv0 := val_cnt c0
        have hr0 := val_range c0
        have hv1 := val_cnt c1
        have hr1 := val_range c1
        have hv2 := val_cnt c2
        have hr2 := val_range c2
        have hv3 := val_cnt c3
        have hr3 := val_range c3
        unfold grp at HG
        generalize hv0a : val c0 = v0 at HG hv0 hr0
        generalize hv0b : cnt c0 = m0 at HG hv0
        generalize hv1a : val c1 = v1 at HG hv1 hr1
        generalize hv1b : cnt c1 = m1 at HG hv1
        generalize hv2a : val c2 = v2 at HG hv2 hr2
        generalize hv2b : cnt c2 = m2 at HG hv2
        generalize hv3a : val c3 = v3 at HG hv3 hr3
        generalize hv3b : cnt c3 = m3 at HG hv3
        clear hv0a hv0b hv1a hv1b hv2a hv2b hv3a hv3b
        obtain ⟨N1, hN1⟩ : ∃ N : Int, v0 = N := ⟨_, rfl⟩
        obtain ⟨M1, hM1⟩ : ∃ M : Nat, m0 = M := ⟨_, rfl⟩
        obtain ⟨N2, hN2⟩ : ∃ N : Int, N1 * 64 + v1 = N := ⟨_, rfl⟩
        obtain ⟨M2, hM2⟩ : ∃ M : Nat, M1 + m1 = M := ⟨_, rfl⟩
        obtain ⟨N3, hN3⟩ : ∃ N : Int, N2 * 64 + v2 = N := ⟨_, rfl⟩
        obtain ⟨M3, hM3⟩ : ∃ M : Nat, M2 + m2 = M := ⟨_, rfl⟩
        obtain ⟨N4, hN4⟩ : ∃ N : Int, N3 * 64 + v3 = N := ⟨_, rfl⟩
        obtain ⟨M4, hM4⟩ : ∃ M : Nat, M3 + m3 = M := ⟨_, rfl⟩
        have hNN : ((v0 * 64 + v1) * 64 + v2) * 64 + v3 = N4 := by omega
        have hMM : m0 + m1 + m2 + m3 = M4 := by omega
        rw [hNN, hMM] at HG
        clear hNN hMM
        have HH := And.intro (And.intro hN1 (And.intro hN2 (And.intro hN3 hN4))) (And.intro hM1 (And.intro hM2 (And.intro hM3 hM4)))
        have hb1 : -64 ≤ N1 ∧ N1 ≤ 64 := by omega
        have hb2 : -4160 ≤ N2 ∧ N2 ≤ 4160 := by omega
        have hb3 : -266304 ≤ N3 ∧ N3 ≤ 266304 := by omega
        have hb4 : -17043520 ≤ N4 ∧ N4 ≤ 17043520 := by omega
        have hM1b : M1 ≤ 1 := by omega
        have hM2b : M2 ≤ 2 := by omega
        have hM3b : M3 ≤ 3 := by omega
        have hM4b : M4 ≤ 4 := by omega
        have S0 : Hid ((c0.toNat = 61 ∧ N1 = 0 ∧ M1 = 0) ∨ (c0.toNat ≠ 61 ∧ N1 = place c0 ∧ M1 = 1)) := by show _ ∨ _; omega
        have S1 : Hid ((c1.toNat = 61 ∧ N2 = N1 * 64 ∧ M2 = M1) ∨ (c1.toNat ≠ 61 ∧ N2 = N1 * 64 + place c1 ∧ M2 = M1 + 1)) := by show _ ∨ _; omega
        have S2 : Hid ((c2.toNat = 61 ∧ N3 = N2 * 64 ∧ M3 = M2) ∨ (c2.toNat ≠ 61 ∧ N3 = N2 * 64 + place c2 ∧ M3 = M2 + 1)) := by show _ ∨ _; omega
        have S3 : Hid ((c3.toNat = 61 ∧ N4 = N3 * 64 ∧ M4 = M3) ∨ (c3.toNat ≠ 61 ∧ N4 = N3 * 64 + place c3 ∧ M4 = M3 + 1)) := by show _ ∨ _; omega
        clear HH hN1 hM1 hN2 hM2 hN3 hM3 hN4 hM4 hv0 hr0 hv1 hr1 hv2 hr2 hv3 hr3
        go_wp2_with fail
        go_loopw [6, 7, 8] (fun n m j W => ((j = .int .i64 0 ∧ n = .int .i64 (0 : Int) ∧ m = .int .i64 (0 : Int)) ∨ (j = .int .i64 1 ∧ n = .int .i64 N1 ∧ m = .int .i64 (M1 : Int)) ∨ (j = .int .i64 2 ∧ n = .int .i64 N2 ∧ m = .int .i64 (M2 : Int)) ∨ (j = .int .i64 3 ∧ n = .int .i64 N3 ∧ m = .int .i64 (M3 : Int)) ∨ (j = .int .i64 4 ∧ n = .int .i64 N4 ∧ m = .int .i64 (M4 : Int))) ∧ W = wo) (fun _ _ j _ => 4 - (intOf j).toNat)
        case atStart => exact ⟨Or.inl ⟨rfl, rfl, rfl⟩, rfl⟩
        case round =>
          obtain ⟨hrel, hww⟩ := hrel
          obtain rfl := hww.symm
          rcases hrel with ⟨rfl, rfl, rfl⟩ | ⟨rfl, rfl, rfl⟩ | ⟨rfl, rfl, rfl⟩ | ⟨rfl, rfl, rfl⟩ | ⟨rfl, rfl, rfl⟩
          · rcases S0.out with ⟨e0, e1, e2⟩ | ⟨e0, e1, e2⟩
            · have t : ((c0.toNat : Int) != 61) = false := by rw [bne_eq_false_iff_eq]; omega
              clear e0
              have E1 := Lib.hid e1
              have E2 := Lib.hid e2
              clear e1 e2
              go_wp2_with fail
              go_roundw
              case rel => exact ⟨Or.inr (Or.inl ⟨rfl, by rw [E1.out], by rw [E2.out]; rfl⟩), trivial⟩
              case measure => simp [intOf]
            · have t : ((c0.toNat : Int) != 61) = true := by rw [bne_iff_ne]; omega
              have hpr := place_range c0
              have HP := Lib.hid (fun W => refPlace_any c0 W)
              generalize place c0 = p at e1 hpr HP
              clear e0
              have E1 := Lib.hid e1
              have E2 := Lib.hid e2
              clear e1 e2
              go_wp2_with fail
              refine (HP.out _).mono ?_
              rintro e w2 ⟨rfl, hw2⟩
              obtain rfl := hw2.symm
              go_wp2_with fail
              go_roundw
              case rel => exact ⟨Or.inr (Or.inl ⟨rfl, by rw [E1.out], by rw [E2.out]; first | rfl | go_num⟩), trivial⟩
              case measure => simp [intOf]
          · rcases S1.out with ⟨e0, e1, e2⟩ | ⟨e0, e1, e2⟩
            · have t : ((c1.toNat : Int) != 61) = false := by rw [bne_eq_false_iff_eq]; omega
              clear e0
              have E1 := Lib.hid e1
              have E2 := Lib.hid e2
              clear e1 e2
              go_wp2_with fail
              go_roundw
              case rel => exact ⟨Or.inr (Or.inr (Or.inl ⟨rfl, by rw [E1.out], by rw [E2.out]⟩)), trivial⟩
              case measure => simp [intOf]
            · have t : ((c1.toNat : Int) != 61) = true := by rw [bne_iff_ne]; omega
              have hpr := place_range c1
              have HP := Lib.hid (fun W => refPlace_any c1 W)
              generalize place c1 = p at e1 hpr HP
              clear e0
              have E1 := Lib.hid e1
              have E2 := Lib.hid e2
              clear e1 e2
              go_wp2_with fail
              refine (HP.out _).mono ?_
              rintro e w2 ⟨rfl, hw2⟩
              obtain rfl := hw2.symm
              go_wp2_with fail
              go_roundw
              case rel => exact ⟨Or.inr (Or.inr (Or.inl ⟨rfl, by rw [E1.out], by rw [E2.out]; first | rfl | go_num⟩)), trivial⟩
              case measure => simp [intOf]
          · rcases S2.out with ⟨e0, e1, e2⟩ | ⟨e0, e1, e2⟩
            · have t : ((c2.toNat : Int) != 61) = false := by rw [bne_eq_false_iff_eq]; omega
              clear e0
              have E1 := Lib.hid e1
              have E2 := Lib.hid e2
              clear e1 e2
              go_wp2_with fail
              go_roundw
              case rel => exact ⟨Or.inr (Or.inr (Or.inr (Or.inl ⟨rfl, by rw [E1.out], by rw [E2.out]⟩))), trivial⟩
              case measure => simp [intOf]
            · have t : ((c2.toNat : Int) != 61) = true := by rw [bne_iff_ne]; omega
              have hpr := place_range c2
              have HP := Lib.hid (fun W => refPlace_any c2 W)
              generalize place c2 = p at e1 hpr HP
              clear e0
              have E1 := Lib.hid e1
              have E2 := Lib.hid e2
              clear e1 e2
              go_wp2_with fail
              refine (HP.out _).mono ?_
              rintro e w2 ⟨rfl, hw2⟩
              obtain rfl := hw2.symm
              go_wp2_with fail
              go_roundw
              case rel => exact ⟨Or.inr (Or.inr (Or.inr (Or.inl ⟨rfl, by rw [E1.out], by rw [E2.out]; first | rfl | go_num⟩))), trivial⟩
              case measure => simp [intOf]
          · rcases S3.out with ⟨e0, e1, e2⟩ | ⟨e0, e1, e2⟩
            · have t : ((c3.toNat : Int) != 61) = false := by rw [bne_eq_false_iff_eq]; omega
              clear e0
              have E1 := Lib.hid e1
              have E2 := Lib.hid e2
              clear e1 e2
              go_wp2_with fail
              go_roundw
              case rel => exact ⟨Or.inr (Or.inr (Or.inr (Or.inr (⟨rfl, by rw [E1.out], by rw [E2.out]⟩)))), trivial⟩
              case measure => simp [intOf]
            · have t : ((c3.toNat : Int) != 61) = true := by rw [bne_iff_ne]; omega
              have hpr := place_range c3
              have HP := Lib.hid (fun W => refPlace_any c3 W)
              generalize place c3 = p at e1 hpr HP
              clear e0
              have E1 := Lib.hid e1
              have E2 := Lib.hid e2
              clear e1 e2
              go_wp2_with fail
              refine (HP.out _).mono ?_
              rintro e w2 ⟨rfl, hw2⟩
              obtain rfl := hw2.symm
              go_wp2_with fail
              go_roundw
              case rel => exact ⟨Or.inr (Or.inr (Or.inr (Or.inr (⟨rfl, by rw [E1.out], by rw [E2.out]; first | rfl | go_num⟩)))), trivial⟩
              case measure => simp [intOf]
          · clear S0 S1 S2 S3 hc0 hc1 hc2 hc3
            go_wp2_with fail
            go_loopw [4, 9] (fun v kk wr => ∃ j : Int, 0 ≤ j ∧ j ≤ 3 ∧ (j = 0 ∨ j + 1 ≤ M4) ∧ kk = .int .i64 j ∧ OwnB wr w.heap.size 5 v (out ++ (bytesOf N4).take j.toNat) ∧ Below w.heap.size w wr ∧ w.heap.size ≤ wr.heap.size) (fun _ kk _ => 4 - (intOf kk).toNat)
            case atStart => exact ⟨0, by omega, by omega, .inl rfl, rfl, by simpa using hown, hB, hwz⟩
            case round =>
              obtain ⟨j, j0, j3, jm, rfl, hown2, hB2, hwz2⟩ := hrel
              by_cases hjm : j + 1 < (M4 : Int)
              · rcases (by omega : j = 0 ∨ j = 1 ∨ j = 2) with rfl | rfl | rfl
                · go_wp2_with (at_builtin; refine app_byte w.heap.size rfl (.tmp 48) (.tmp 55) 34 5 rfl Tryd.underlying34 info5 _ _ _ (ub (N4 / 65536)) (by rw [ub_val]) rfl rfl hown2 hwz2 (by simp [bytesOf]; omega) ?_; intro v1 w1 hown1 hb1)
                  go_roundw
                  case rel => exact ⟨1, by omega, by omega, by omega, by first | rfl | go_num, by simpa [bytesOf] using hown1, hB2.trans (hb1.mono (by omega)), Nat.le_trans hwz2 hb1.size⟩
                  case measure => simp [intOf]
                · go_wp2_with (at_builtin; refine app_byte w.heap.size rfl (.tmp 48) (.tmp 55) 34 5 rfl Tryd.underlying34 info5 _ _ _ (ub (N4 / 256)) (by rw [ub_val]) rfl rfl hown2 hwz2 (by simp [bytesOf]; omega) ?_; intro v1 w1 hown1 hb1)
                  go_roundw
                  case rel => exact ⟨2, by omega, by omega, by omega, by first | rfl | go_num, by simpa [bytesOf] using hown1, hB2.trans (hb1.mono (by omega)), Nat.le_trans hwz2 hb1.size⟩
                  case measure => simp [intOf]
                · go_wp2_with (at_builtin; refine app_byte w.heap.size rfl (.tmp 48) (.tmp 55) 34 5 rfl Tryd.underlying34 info5 _ _ _ (ub (N4)) (by rw [ub_val]) rfl rfl hown2 hwz2 (by simp [bytesOf]; omega) ?_; intro v1 w1 hown1 hb1)
                  go_roundw
                  case rel => exact ⟨3, by omega, by omega, by omega, by first | rfl | go_num, by simpa [bytesOf] using hown1, hB2.trans (hb1.mono (by omega)), Nat.le_trans hwz2 hb1.size⟩
                  case measure => simp [intOf]
              · have hjn : j.toNat = M4 - 1 := by omega
                rw [hjn] at hown2
                go_wp2_with fail
                go_roundw
                case rel => exact ⟨k + 4, out ++ (bytesOf N4).take (M4 - 1), by omega, by omega, by simp [bytesOf]; omega, by go_num, HG, hown2, hB2, hwz2⟩
                case measure => simp [intOf]; omega
      · have hdrop : s.data.toList.drop k = [] := List.drop_eq_nil_of_le (by rw [← Lib.size_eq]; omega)
        have HR : Hid (rdec s.data.toList = out) := by
          show _ = _
          rw [HC.out, hdrop]
          simp [rdec]
        have hconv := run_string (P := Tryd.prog) (src := 34) (dst := 9) Tryd.underlying34 Tryd.underlying5 Tryd.underlying9 hown
        have hsz : (ByteArray.mk out.toArray).size = out.length := by simp [ByteArray.size]
        have hb64 := refBase64_any ⟨out.toArray⟩ wo (by rw [hsz]; omega)
        have B1 := Lib.hid hb64
        clear hb64 hsz hdrop HC
        by_cases hq : b64 out = s.data.toList
        · have HU : Hid (unb s.data.toList = some out) := by
            show _ = _
            rw [unb_rdec, HR.out]
            exact if_pos hq
          have hne : (b64 out != s.data.toList) = false := by simp [hq]
          go_wp2_with fail
          refine B1.out.mono ?_
          rintro e w2 ⟨rfl, hb2⟩
          obtain rfl := hb2.symm
          go_wp2_with fail
          go_ret2
          exact ⟨by rw [HU.out]; rfl, hB⟩
        · have HU : Hid (unb s.data.toList = none) := by
            show _ = _
            rw [unb_rdec, HR.out]
            exact if_neg hq
          have hne : (b64 out == s.toList) = false := by rw [toList_data]; simpa using hq
          go_wp2_with fail
          refine B1.out.mono ?_
          rintro e w2 ⟨rfl, hb2⟩
          obtain rfl := hb2.symm
          go_wp2_with fail
          go_ret2
          exact ⟨by rw [HU.out]; rfl, hB⟩
  · have HU : Hid (unb s.data.toList = none) := unb_short _ (by rw [← Lib.size_eq]; exact h4)
    have hm : ¬ (s.size : Int) % 4 = 0 := by omega
    have hm2 : ((s.size : Int) % 4 != 0) = true := by rw [bne_iff_ne]; omega
    go_enter Tryd.func18, Tryd.ntmps18
    go_wp2_with fail
    go_ret2
    exact ⟨by rw [HU.out]; rfl, Below.refl _ _⟩
end Go.Proofs.YtmfeojhphdmodaaDoor
