/- The laws TextOnce, TextJoins, TextSafe and TextNames: their walks. -/
import Derived.Test.YtmfeojhphdmodaaDoorLv
import Derived.Test.YtmfeojhphdmodaaDoorTq
namespace Go.Proofs.YtmfeojhphdmodaaDoor
open Go.RowKit
open Hb

theorem unb_len {l x : List UInt8} (h : unb l = some x) : x.length ≤ l.length ∧ l.length % 4 = 0 := by
  have := b64_len x
  rw [unb_some h] at this
  omega

set_option maxHeartbeats 1000000 in
theorem textOnce_walk (s : ByteArray) (w0 : s.size ≤ 140737488351232) (w : World) :
    Calls Tryd.prog 6 #[.string s] w fun e w' => e = .returned (.bool true) ∧ Below w.heap.size w w' := by
  have c0 := short_any s w (by omega)
  have hl := short_len s
  generalize s.data.toList.take 3000 = l at c0 hl
  have hls : (ByteArray.mk l.toArray).size = l.length := by simp [ByteArray.size]
  have c1 := fun W => unbase64_any ⟨l.toArray⟩ W (by omega)
  cases hu : unb l with
  | none =>
    have c1 := fun W => unbase64_any ⟨l.toArray⟩ W (by omega)
    rw [show unb (ByteArray.mk l.toArray).data.toList = none from hu] at c1
    have hn : Told none = .tuple #[.string ⟨#[]⟩, .int .i64 3] := rfl
    simp only [hn] at c1
    have C0 := Lib.hid c0
    have C1 := Lib.hid c1
    clear c0 c1 hl hls hn
    go_enter Tryd.func6, Tryd.ntmps6
    go_wp2_with fail
    refine C0.out.mono ?_
    rintro e w1 ⟨rfl, b0⟩
    obtain rfl := b0.symm
    go_wp2_with fail
    refine (C1.out _).mono ?_
    rintro e w2 ⟨rfl, b1⟩
    go_wp2_with fail
    refine (live_any _).mono ?_
    rintro e w6 ⟨rfl, b5⟩
    go_wp2_with fail
    go_ret
    exact ⟨rfl, below_then b1 (Nat.le_refl _) b5⟩
  | some x =>
    have c1 := fun W => unbase64_any ⟨l.toArray⟩ W (by omega)
    rw [show unb (ByteArray.mk l.toArray).data.toList = some x from hu] at c1
    simp only [told_some] at c1
    have hx := unb_len hu
    have hxs : (ByteArray.mk x.toArray).size = x.length := by simp [ByteArray.size]
    have c2 := fun W => base64_any ⟨x.toArray⟩ W (by omega)
    rw [show b64 (ByteArray.mk x.toArray).data.toList = l from unb_some hu] at c2
    have hm : l.length % 4 = 0 := hx.2
    have hz : (l.length : Int) % 4 = 0 := by omega
    have C0 := Lib.hid c0
    have C1 := Lib.hid c1
    have C2 := Lib.hid c2
    clear c0 c1 c2 hx hxs
    go_enter Tryd.func6, Tryd.ntmps6
    go_wp2_with fail
    refine C0.out.mono ?_
    rintro e w1 ⟨rfl, b0⟩
    obtain rfl := b0.symm
    go_wp2_with fail
    refine (C1.out _).mono ?_
    rintro e w2 ⟨rfl, b1⟩
    go_wp2_with fail
    refine (live_any _).mono ?_
    rintro e w6 ⟨rfl, b5⟩
    go_wp2_with fail
    refine (C2.out _).mono ?_
    rintro e w7 ⟨rfl, b6⟩
    go_wp2_with fail
    go_ret
    exact ⟨rfl, below_then (below_then b1 (Nat.le_refl _) b5) (Nat.le_refl _) b6⟩
theorem cat_data (a b : ByteArray) : (a ++ b).data.toList = a.data.toList ++ b.data.toList := by simp [ByteArray.data_append]
theorem cat_mk (a b : List UInt8) : (ByteArray.mk a.toArray ++ ByteArray.mk b.toArray) = ByteArray.mk (a ++ b).toArray := by
  apply ByteArray.ext; simp [ByteArray.data_append]

set_option maxHeartbeats 2000000 in
theorem textJoins_walk (s t : ByteArray) (w0 : s.size ≤ 140737488351232) (w1 : t.size ≤ 140737488351232) (w : World) :
    Calls Tryd.prog 9 #[.string s, .string t] w fun e w' => e = .returned (.bool true) ∧ Below w.heap.size w w' := by
  have c0 := short_any s w (by omega)
  have d0 := short_any t w (by omega)
  have hl := short_len s
  have hk := short_len t
  generalize s.data.toList.take 3000 = l at c0 hl
  generalize t.data.toList.take 3000 = m at d0 hk
  have hls : (ByteArray.mk l.toArray).size = l.length := by simp [ByteArray.size]
  have hms : (ByteArray.mk m.toArray).size = m.length := by simp [ByteArray.size]
  have hlm : (ByteArray.mk (l ++ m).toArray).size = l.length + m.length := by simp [ByteArray.size]
  have c1 := fun W => escape_any ⟨(l ++ m).toArray⟩ W (by omega)
  rw [show esc (ByteArray.mk (l ++ m).toArray).data.toList = esc l ++ esc m from esc_append l m] at c1
  have c2 := fun W => escape_any ⟨l.toArray⟩ W (by omega)
  have c3 := fun W => escape_any ⟨m.toArray⟩ W (by omega)
  have c4 := fun W => chars_any ⟨l.toArray⟩ W
  have c5 := fun W => chars_any ⟨m.toArray⟩ W
  have c6 := fun W => chars_any ⟨(l ++ m).toArray⟩ W
  have c7 := fun W => space_any ⟨l.toArray⟩ W (by omega)
  have c8 := fun W => space_any ⟨m.toArray⟩ W (by omega)
  have c9 := fun W => space_any ⟨(l ++ m).toArray⟩ W (by omega)
  have hca := chars_append l.length l m (Nat.le_refl _)
  rw [show space (ByteArray.mk (l ++ m).toArray).data.toList = (space l && space m) from space_append l m] at c9
  change ∀ W, Calls _ _ _ W (fun e w' => e = .returned (.bool (chars (l ++ m))) ∧ _) at c6
  change ∀ W, Calls _ _ _ W (fun e w' => e = .returned (.bool (chars l)) ∧ _) at c4
  change ∀ W, Calls _ _ _ W (fun e w' => e = .returned (.bool (chars m)) ∧ _) at c5
  change ∀ W, Calls _ _ _ W (fun e w' => e = .returned (.bool (space l)) ∧ _) at c7
  change ∀ W, Calls _ _ _ W (fun e w' => e = .returned (.bool (space m)) ∧ _) at c8
  have he1 : (ByteArray.mk (esc l).toArray).size ≤ 20000 := by
    have := esc_len l
    have : (ByteArray.mk (esc l).toArray).size = (esc l).length := by simp [ByteArray.size]
    omega
  have he2 : (ByteArray.mk (esc m).toArray).size ≤ 20000 := by
    have := esc_len m
    have : (ByteArray.mk (esc m).toArray).size = (esc m).length := by simp [ByteArray.size]
    omega
  have m1 : (ByteArray.mk l.toArray ++ ByteArray.mk m.toArray) = ⟨(l ++ m).toArray⟩ := cat_mk l m
  have m2 : (ByteArray.mk (esc l).toArray ++ ByteArray.mk (esc m).toArray) = ⟨(esc l ++ esc m).toArray⟩ := cat_mk _ _
  have C0 := Lib.hid c0
  have D0 := Lib.hid d0
  have C1 := Lib.hid c1
  have C2 := Lib.hid c2
  have C3 := Lib.hid c3
  have C4 := Lib.hid c4
  have C5 := Lib.hid c5
  have C6 := Lib.hid c6
  have C7 := Lib.hid c7
  have C8 := Lib.hid c8
  have C9 := Lib.hid c9
  clear c0 c1 c2 c3 c4 c5 c6 c7 c8 c9 d0
  generalize chars (l ++ m) = x3 at hca C6
  generalize chars l = x1 at hca C4
  generalize chars m = x2 at hca C5
  generalize space l = y1 at C7 C9
  generalize space m = y2 at C8 C9
  cases x1
  · clear hca
    cases y1
    · simp only [Bool.false_and] at C9
      go_enter Tryd.func9, Tryd.ntmps9
      go_wp2_with fail
      refine (C0.out).mono ?_
      rintro e w2 ⟨rfl, b1⟩
      obtain rfl := b1.symm
      go_wp2_with fail
      refine (D0.out).mono ?_
      rintro e w3 ⟨rfl, b2⟩
      obtain rfl := b2.symm
      go_wp2_with fail
      refine (live_any _).mono ?_
      rintro e w4 ⟨rfl, b3⟩
      go_wp2_with fail
      refine (C1.out _).mono ?_
      rintro e w5 ⟨rfl, b4⟩
      go_wp2_with fail
      refine (C2.out _).mono ?_
      rintro e w6 ⟨rfl, b5⟩
      go_wp2_with fail
      refine (C3.out _).mono ?_
      rintro e w7 ⟨rfl, b6⟩
      go_wp2_with fail
      refine (C4.out _).mono ?_
      rintro e w8 ⟨rfl, b7⟩
      go_wp2_with fail
      refine (C9.out _).mono ?_
      rintro e w9 ⟨rfl, b8⟩
      go_wp2_with fail
      refine (C7.out _).mono ?_
      rintro e w10 ⟨rfl, b9⟩
      go_wp2_with fail
      go_ret
      exact ⟨rfl, below_then (below_then (below_then (below_then (below_then (below_then (b3) (Nat.le_refl _) b4) (Nat.le_refl _) b5) (Nat.le_refl _) b6) (Nat.le_refl _) b7) (Nat.le_refl _) b8) (Nat.le_refl _) b9⟩
    · simp only [Bool.true_and] at C9
      go_enter Tryd.func9, Tryd.ntmps9
      go_wp2_with fail
      refine (C0.out).mono ?_
      rintro e w2 ⟨rfl, b1⟩
      obtain rfl := b1.symm
      go_wp2_with fail
      refine (D0.out).mono ?_
      rintro e w3 ⟨rfl, b2⟩
      obtain rfl := b2.symm
      go_wp2_with fail
      refine (live_any _).mono ?_
      rintro e w4 ⟨rfl, b3⟩
      go_wp2_with fail
      refine (C1.out _).mono ?_
      rintro e w5 ⟨rfl, b4⟩
      go_wp2_with fail
      refine (C2.out _).mono ?_
      rintro e w6 ⟨rfl, b5⟩
      go_wp2_with fail
      refine (C3.out _).mono ?_
      rintro e w7 ⟨rfl, b6⟩
      go_wp2_with fail
      refine (C4.out _).mono ?_
      rintro e w8 ⟨rfl, b7⟩
      go_wp2_with fail
      refine (C9.out _).mono ?_
      rintro e w9 ⟨rfl, b8⟩
      go_wp2_with fail
      refine (C7.out _).mono ?_
      rintro e w10 ⟨rfl, b9⟩
      go_wp2_with fail
      refine (C8.out _).mono ?_
      rintro e w11 ⟨rfl, b10⟩
      go_wp2_with fail
      go_ret
      exact ⟨rfl, below_then (below_then (below_then (below_then (below_then (below_then (below_then (b3) (Nat.le_refl _) b4) (Nat.le_refl _) b5) (Nat.le_refl _) b6) (Nat.le_refl _) b7) (Nat.le_refl _) b8) (Nat.le_refl _) b9) (Nat.le_refl _) b10⟩
  · cases x2
    · clear hca
      cases y1
      · simp only [Bool.false_and] at C9
        go_enter Tryd.func9, Tryd.ntmps9
        go_wp2_with fail
        refine (C0.out).mono ?_
        rintro e w2 ⟨rfl, b1⟩
        obtain rfl := b1.symm
        go_wp2_with fail
        refine (D0.out).mono ?_
        rintro e w3 ⟨rfl, b2⟩
        obtain rfl := b2.symm
        go_wp2_with fail
        refine (live_any _).mono ?_
        rintro e w4 ⟨rfl, b3⟩
        go_wp2_with fail
        refine (C1.out _).mono ?_
        rintro e w5 ⟨rfl, b4⟩
        go_wp2_with fail
        refine (C2.out _).mono ?_
        rintro e w6 ⟨rfl, b5⟩
        go_wp2_with fail
        refine (C3.out _).mono ?_
        rintro e w7 ⟨rfl, b6⟩
        go_wp2_with fail
        refine (C4.out _).mono ?_
        rintro e w8 ⟨rfl, b7⟩
        go_wp2_with fail
        refine (C5.out _).mono ?_
        rintro e w9 ⟨rfl, b8⟩
        go_wp2_with fail
        refine (C9.out _).mono ?_
        rintro e w10 ⟨rfl, b9⟩
        go_wp2_with fail
        refine (C7.out _).mono ?_
        rintro e w11 ⟨rfl, b10⟩
        go_wp2_with fail
        go_ret
        exact ⟨rfl, below_then (below_then (below_then (below_then (below_then (below_then (below_then (b3) (Nat.le_refl _) b4) (Nat.le_refl _) b5) (Nat.le_refl _) b6) (Nat.le_refl _) b7) (Nat.le_refl _) b8) (Nat.le_refl _) b9) (Nat.le_refl _) b10⟩
      · simp only [Bool.true_and] at C9
        go_enter Tryd.func9, Tryd.ntmps9
        go_wp2_with fail
        refine (C0.out).mono ?_
        rintro e w2 ⟨rfl, b1⟩
        obtain rfl := b1.symm
        go_wp2_with fail
        refine (D0.out).mono ?_
        rintro e w3 ⟨rfl, b2⟩
        obtain rfl := b2.symm
        go_wp2_with fail
        refine (live_any _).mono ?_
        rintro e w4 ⟨rfl, b3⟩
        go_wp2_with fail
        refine (C1.out _).mono ?_
        rintro e w5 ⟨rfl, b4⟩
        go_wp2_with fail
        refine (C2.out _).mono ?_
        rintro e w6 ⟨rfl, b5⟩
        go_wp2_with fail
        refine (C3.out _).mono ?_
        rintro e w7 ⟨rfl, b6⟩
        go_wp2_with fail
        refine (C4.out _).mono ?_
        rintro e w8 ⟨rfl, b7⟩
        go_wp2_with fail
        refine (C5.out _).mono ?_
        rintro e w9 ⟨rfl, b8⟩
        go_wp2_with fail
        refine (C9.out _).mono ?_
        rintro e w10 ⟨rfl, b9⟩
        go_wp2_with fail
        refine (C7.out _).mono ?_
        rintro e w11 ⟨rfl, b10⟩
        go_wp2_with fail
        refine (C8.out _).mono ?_
        rintro e w12 ⟨rfl, b11⟩
        go_wp2_with fail
        go_ret
        exact ⟨rfl, below_then (below_then (below_then (below_then (below_then (below_then (below_then (below_then (b3) (Nat.le_refl _) b4) (Nat.le_refl _) b5) (Nat.le_refl _) b6) (Nat.le_refl _) b7) (Nat.le_refl _) b8) (Nat.le_refl _) b9) (Nat.le_refl _) b10) (Nat.le_refl _) b11⟩
    · obtain rfl := (hca rfl rfl)
      clear hca
      cases y1
      · simp only [Bool.false_and] at C9
        go_enter Tryd.func9, Tryd.ntmps9
        go_wp2_with fail
        refine (C0.out).mono ?_
        rintro e w2 ⟨rfl, b1⟩
        obtain rfl := b1.symm
        go_wp2_with fail
        refine (D0.out).mono ?_
        rintro e w3 ⟨rfl, b2⟩
        obtain rfl := b2.symm
        go_wp2_with fail
        refine (live_any _).mono ?_
        rintro e w4 ⟨rfl, b3⟩
        go_wp2_with fail
        refine (C1.out _).mono ?_
        rintro e w5 ⟨rfl, b4⟩
        go_wp2_with fail
        refine (C2.out _).mono ?_
        rintro e w6 ⟨rfl, b5⟩
        go_wp2_with fail
        refine (C3.out _).mono ?_
        rintro e w7 ⟨rfl, b6⟩
        go_wp2_with fail
        refine (C4.out _).mono ?_
        rintro e w8 ⟨rfl, b7⟩
        go_wp2_with fail
        refine (C5.out _).mono ?_
        rintro e w9 ⟨rfl, b8⟩
        go_wp2_with fail
        refine (C6.out _).mono ?_
        rintro e w10 ⟨rfl, b9⟩
        go_wp2_with fail
        refine (C9.out _).mono ?_
        rintro e w11 ⟨rfl, b10⟩
        go_wp2_with fail
        refine (C7.out _).mono ?_
        rintro e w12 ⟨rfl, b11⟩
        go_wp2_with fail
        go_ret
        exact ⟨rfl, below_then (below_then (below_then (below_then (below_then (below_then (below_then (below_then (b3) (Nat.le_refl _) b4) (Nat.le_refl _) b5) (Nat.le_refl _) b6) (Nat.le_refl _) b7) (Nat.le_refl _) b8) (Nat.le_refl _) b9) (Nat.le_refl _) b10) (Nat.le_refl _) b11⟩
      · simp only [Bool.true_and] at C9
        go_enter Tryd.func9, Tryd.ntmps9
        go_wp2_with fail
        refine (C0.out).mono ?_
        rintro e w2 ⟨rfl, b1⟩
        obtain rfl := b1.symm
        go_wp2_with fail
        refine (D0.out).mono ?_
        rintro e w3 ⟨rfl, b2⟩
        obtain rfl := b2.symm
        go_wp2_with fail
        refine (live_any _).mono ?_
        rintro e w4 ⟨rfl, b3⟩
        go_wp2_with fail
        refine (C1.out _).mono ?_
        rintro e w5 ⟨rfl, b4⟩
        go_wp2_with fail
        refine (C2.out _).mono ?_
        rintro e w6 ⟨rfl, b5⟩
        go_wp2_with fail
        refine (C3.out _).mono ?_
        rintro e w7 ⟨rfl, b6⟩
        go_wp2_with fail
        refine (C4.out _).mono ?_
        rintro e w8 ⟨rfl, b7⟩
        go_wp2_with fail
        refine (C5.out _).mono ?_
        rintro e w9 ⟨rfl, b8⟩
        go_wp2_with fail
        refine (C6.out _).mono ?_
        rintro e w10 ⟨rfl, b9⟩
        go_wp2_with fail
        refine (C9.out _).mono ?_
        rintro e w11 ⟨rfl, b10⟩
        go_wp2_with fail
        refine (C7.out _).mono ?_
        rintro e w12 ⟨rfl, b11⟩
        go_wp2_with fail
        refine (C8.out _).mono ?_
        rintro e w13 ⟨rfl, b12⟩
        go_wp2_with fail
        go_ret
        exact ⟨rfl, below_then (below_then (below_then (below_then (below_then (below_then (below_then (below_then (below_then (b3) (Nat.le_refl _) b4) (Nat.le_refl _) b5) (Nat.le_refl _) b6) (Nat.le_refl _) b7) (Nat.le_refl _) b8) (Nat.le_refl _) b9) (Nat.le_refl _) b10) (Nat.le_refl _) b11) (Nat.le_refl _) b12⟩

set_option maxHeartbeats 1000000 in
theorem textSafe_walk (s : ByteArray) (w0 : s.size ≤ 140737488351232) (w : World) :
    Calls Tryd.prog 7 #[.string s] w fun e w' => e = .returned (.bool true) ∧ Below w.heap.size w w' := by
  have c0 := short_any s w (by omega)
  have hl := short_len s
  generalize s.data.toList.take 3000 = l at c0 hl
  have hls : (ByteArray.mk l.toArray).size = l.length := by simp [ByteArray.size]
  have c1 := fun W => escape_any ⟨l.toArray⟩ W (by omega)
  change ∀ W, Calls _ _ _ W (fun e w' => e = .returned (.string ⟨(esc l).toArray⟩) ∧ _) at c1
  have hsafe := esc_safe l
  have hlong := esc_longer l
  have hle := esc_len l
  have c2 := fun W => chars_any ⟨(esc l).toArray⟩ W
  rw [show chars (ByteArray.mk (esc l).toArray).data.toList = chars l from chars_esc _ l (Nat.le_refl _)] at c2
  have c3 := fun W => chars_any ⟨l.toArray⟩ W
  change ∀ W, Calls _ _ _ W (fun e w' => e = .returned (.bool (chars l)) ∧ _) at c3
  generalize chars l = x at c2 c3
  generalize ht : (ByteArray.mk (esc l).toArray) = t at c1 c2
  have htl : t.data.toList = esc l := by subst ht; rfl
  have hts : t.size = (esc l).length := by rw [Lib.size_eq, htl]
  rw [← htl] at hsafe
  rw [← hts] at hlong hle
  clear ht htl hts
  rw [← hls] at hlong
  have C0 := Lib.hid c0
  have C1 := Lib.hid c1
  have C2 := Lib.hid c2
  have C3 := Lib.hid c3
  have HS := Lib.hid hsafe
  clear c0 c1 c2 c3 hsafe
  go_enter Tryd.func7, Tryd.ntmps7
  go_wp2_with fail
  refine C0.out.mono ?_
  rintro e w1 ⟨rfl, b0⟩
  obtain rfl := b0.symm
  go_wp2_with fail
  refine (C1.out _).mono ?_
  rintro e w2 ⟨rfl, b1⟩
  go_wp2_with fail
  go_loop [4] (fun i => ∃ k : Nat, k ≤ t.size ∧ i = .int .i64 k) (fun i => t.size - (intOf i).toNat)
  case atStart => exact ⟨0, Nat.zero_le _, rfl⟩
  case round =>
    obtain ⟨k, hk, rfl⟩ := hrel
    by_cases hlt : k < t.size
    · have hm : t[k] ∈ t.data.toList := by
        rw [ByteArray.getElem_eq_getElem_data]
        exact Array.mem_toList_iff.2 (Array.getElem_mem _)
      obtain ⟨h60, h62, h39, h34⟩ := HS.out _ hm
      have e60 : ((t[k].toNat : Int) == 60) = false := by rw [beq_eq_false_iff_ne]; omega
      have e62 : ((t[k].toNat : Int) == 62) = false := by rw [beq_eq_false_iff_ne]; omega
      have e39 : ((t[k].toNat : Int) == 39) = false := by rw [beq_eq_false_iff_ne]; omega
      have e34 : ((t[k].toNat : Int) == 34) = false := by rw [beq_eq_false_iff_ne]; omega
      clear hm h60 h62 h39 h34
      go_wp2_with fail
      go_round
      case rel => exact ⟨k + 1, by omega, by go_num⟩
      case measure => simp [intOf]; omega
    · go_wp2_with fail
      refine (live_any _).mono ?_
      rintro e w3 ⟨rfl, b2⟩
      go_wp2_with fail
      refine (C2.out _).mono ?_
      rintro e w4 ⟨rfl, b3⟩
      go_wp2_with fail
      refine (C3.out _).mono ?_
      rintro e w5 ⟨rfl, b4⟩
      go_wp2_with fail
      go_ret
      exact ⟨by simp, below_then (below_then (below_then b1 (Nat.le_refl _) b2) (Nat.le_refl _) b3) (Nat.le_refl _) b4⟩
end Go.Proofs.YtmfeojhphdmodaaDoor
