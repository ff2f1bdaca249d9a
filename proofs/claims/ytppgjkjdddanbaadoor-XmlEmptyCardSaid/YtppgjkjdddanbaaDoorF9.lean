/- xml's chars inside of an element. -/
import Derived.Test.YtppgjkjdddanbaaDoorF8
import Derived.Handy
namespace Go.Proofs.YtppgjkjdddanbaaDoor
open Go.RowKit
open Hb

def tellV (C : Nat) : Value := .func (.func 21) #[] #[pt C]

theorem row_below {w w1 : World} {base : Nat} {e : TypeId} {k : Nat} {v : Value} {n : Nat} {xs : List Value} (h : w.ownsRow base e k v n xs) (hb : Below w.heap.size w w1) : w1.ownsRow base e k v n xs := by
  refine ⟨h.1, ?_⟩
  rcases h.2 with h0 | ⟨g, cap, cur, e1, e2, e3, e4⟩
  · exact .inl h0
  · exact .inr ⟨g, cap, cur, e1, e2, (hb.block g (by rw [Array.getElem?_eq_some_iff] at e3; exact e3.1)).trans e3, e4⟩

set_option maxRecDepth 100000 in
set_option maxHeartbeats 4000000 in
theorem xchars_in (A C : Nat) (vw q ro be br : Value) (g : Option Addr) (d c : Nat) (s : ByteArray) (b0 : UInt8) (t : List UInt8) (w : World) (hs : s.size ≤ 70368744177664) (hx : Box w A 47 #[vw, q, .slice g (d + 1 : Nat) c, ro, be, br])
    (hu : unesc (s.size + 1) s.data.toList = some (b0 :: t)) (hc : chars s.data.toList = true)
    (base n : Nat) (vout : Value) (cells : List Value) (hC : Box w C 25 #[vout]) (ho : w.ownsRow base 34 4 vout n cells) (hb : base ≤ w.heap.size) (hn : n ≤ 100000000000) :
    Calls Tryd.prog 25 #[pt A, .string s, tellV C] w fun o w' => o = .returned (.tuple #[]) ∧
      ∃ v1, w'.ownsRow base 34 4 v1 (n + 1) (cells ++ [.int .u8 3, .string ⟨#[]⟩, .slice none 0 0, .string ⟨(b0 :: t).toArray⟩]) ∧ Box w' C 25 #[v1] ∧ Only (fun k => k = C ∨ some k = vout.ownBlock) w w' := by
  have HU := Lib.hid (fun W => unescape_any s W hs)
  have HC := Lib.hid (fun W => chars_any s W)
  rw [hu] at HU
  rw [hc] at HC
  have hX : ∀ w1 w2, Below w.heap.size w w1 → Below w1.heap.size w1 w2 → w2.cell? ⟨A, 2, none⟩ = some (.slice g (d + 1 : Nat) c) := fun w1 w2 h1 h2 => by
    rw [(h1.trans (h2.mono h1.size)).cell hx.lt]
    exact hx.cell 2
  have HX := Lib.hid hX
  have hT : ∀ w1 w2, Below w.heap.size w w1 → Below w1.heap.size w1 w2 → ∀ tb : ByteArray, Calls Tryd.prog 21 #[.slice (some ⟨w2.heap.size, 0, none⟩) 1 1, pt C] (w2.alloc (.cells #[.int .u8 3, .string ⟨#[]⟩, .slice none 0 0, .string tb] 34)) fun o w' => o = .returned (.tuple #[]) ∧
      ∃ v1, w'.ownsRow base 34 4 v1 (n + 1) (cells ++ [.int .u8 3, .string ⟨#[]⟩, .slice none 0 0, .string tb]) ∧ Box w' C 25 #[v1] ∧ Only (fun k => k = C ∨ some k = vout.ownBlock) w w' := fun w1 w2 h1 h2 tb => by
    have hbl := h1.trans (h2.mono h1.size)
    have hal : Below w.heap.size w (w2.alloc (.cells #[.int .u8 3, .string ⟨#[]⟩, .slice none 0 0, .string tb] 34)) := hbl.alloc hbl.size _
    refine (tell_any base w2.heap.size C n vout cells [.int .u8 3, .string ⟨#[]⟩, .slice none 0 0, .string tb] _ ((hal.block C hC.lt).trans hC) (row_below ho hal) (Nat.le_trans hb hal.size) rfl ?_ (by simp [Value.oneCell']) hn).mono ?_
    · intro j u hj
      have hbx : Box (w2.alloc (.cells #[.int .u8 3, .string ⟨#[]⟩, .slice none 0 0, .string tb] 34)) w2.heap.size 34 #[.int .u8 3, .string ⟨#[]⟩, .slice none 0 0, .string tb] := (MapKept.heap_alloc w2 _).1
      have ha : (⟨w2.heap.size, 0, none⟩ : Addr).add j = ⟨w2.heap.size, 0 + j, none⟩ := by unfold Addr.add; split <;> simp_all
      rw [ha, hbx.cell, Nat.zero_add]
      simpa using hj
    · rintro e w' ⟨h3, v1, h4, h5, h6⟩
      exact ⟨h3, v1, h4, h5, (Below.only hal _).trans h6 (fun _ _ h => h)⟩
  have HT := Lib.hid hT
  clear hT
  have e0 : (((d + 1 : Nat) : Int) == 0) = false := by rw [beq_eq_false_iff_ne]; omega
  have e1 : ((⟨(b0 :: t).toArray⟩ : ByteArray).toList == []) = false := by rw [ByteArray.toList_eq]; rfl
  clear hX hu hc
  have e2 : ((⟨(b0 :: t).toArray⟩ : ByteArray).toList != []) = true := by unfold bne; rw [e1]; rfl
  unfold tellV
  go_enter Tryd.func25, Tryd.ntmps25
  go_wp2_with (first | (go_at_call 29; refine (HU.out _).mono ?_; rintro e w1 ⟨rfl, hB1⟩; unfold Told) | (go_at_call 30; refine (HC.out _).mono ?_; rintro e w2 ⟨rfl, hB2⟩; have x2 := HX.out _ _ hB1 hB2) | (go_at_call 27; refine (must_ok _ _).mono ?_; rintro e w' ⟨rfl, rfl⟩) | (refine (HT.out _ _ hB1 hB2 _).mono ?_; rintro e w4 ⟨rfl, hQ⟩))
  go_returns
  exact ⟨rfl, hQ⟩
end Go.Proofs.YtppgjkjdddanbaaDoor
