/- xml's chars. -/
import Derived.Test.YtppgjkjdddanbaaDoorF5
import Derived.Test.YtppgjkjdddanbaaDoorF7
import Derived.Test.YtppgjkjdddanbaaDoorTx2
namespace Go.Proofs.YtppgjkjdddanbaaDoor
open Go.RowKit
open Hb

set_option maxRecDepth 100000 in
set_option maxHeartbeats 4000000 in
theorem xchars_bad (A : Nat) (s : ByteArray) (tv : Value) (w : World) (hs : s.size ≤ 70368744177664) (hb : unesc (s.size + 1) s.data.toList = none ∨ chars s.data.toList = false) :
    Calls Tryd.prog 25 #[pt A, .string s, tv] w fun o w' => o = .panicked [{ v := faultV 6, recovered := false }] ∧ Below w.heap.size w w' := by
  have HU := Lib.hid (fun W => unescape_any s W hs)
  have HC := Lib.hid (fun W => chars_any s W)
  generalize unesc (s.size + 1) s.data.toList = o at HU hb
  generalize chars s.data.toList = b at HC hb
  cases o with
  | none =>
    cases b with
    | false =>
      go_enter Tryd.func25, Tryd.ntmps25
      go_wp2_with (first | (go_at_call 29; refine (HU.out _).mono ?_; rintro e w1 ⟨rfl, hB1⟩; unfold Told) | (go_at_call 30; refine (HC.out _).mono ?_; rintro e w2 ⟨rfl, hB2⟩) | (go_at_call 27; refine (must_no 6 _).mono ?_; rintro e w' ⟨rfl, rfl⟩))
      exact ⟨rfl, rfl, hB1.trans (hB2.mono hB1.size)⟩
    | true =>
      go_enter Tryd.func25, Tryd.ntmps25
      go_wp2_with (first | (go_at_call 29; refine (HU.out _).mono ?_; rintro e w1 ⟨rfl, hB1⟩; unfold Told) | (go_at_call 30; refine (HC.out _).mono ?_; rintro e w2 ⟨rfl, hB2⟩) | (go_at_call 27; refine (must_no 6 _).mono ?_; rintro e w' ⟨rfl, rfl⟩))
      exact ⟨rfl, rfl, hB1.trans (hB2.mono hB1.size)⟩
  | some t =>
    obtain rfl : b = false := by rcases hb with h | h; cases h; exact h
    go_enter Tryd.func25, Tryd.ntmps25
    go_wp2_with (first | (go_at_call 29; refine (HU.out _).mono ?_; rintro e w1 ⟨rfl, hB1⟩; unfold Told) | (go_at_call 30; refine (HC.out _).mono ?_; rintro e w2 ⟨rfl, hB2⟩) | (go_at_call 27; refine (must_no 6 _).mono ?_; rintro e w' ⟨rfl, rfl⟩))
    exact ⟨rfl, rfl, hB1.trans (hB2.mono hB1.size)⟩

set_option maxRecDepth 100000 in
set_option maxHeartbeats 4000000 in
/-- a text outside of every element: blanks alone. -/
theorem xchars_out (A : Nat) (vw q ro be br : Value) (g : Option Addr) (c : Nat) (s : ByteArray) (t : List UInt8) (tv : Value) (w : World) (hs : s.size ≤ 70368744177664) (hx : Box w A 47 #[vw, q, .slice g 0 c, ro, be, br])
    (hu : unesc (s.size + 1) s.data.toList = some t) (hc : chars s.data.toList = true) :
    Calls Tryd.prog 25 #[pt A, .string s, tv] w fun o w' => o = (if space s.data.toList = true then .returned (.tuple #[]) else .panicked [{ v := faultV 6, recovered := false }]) ∧ Below w.heap.size w w' := by
  have HU := Lib.hid (fun W => unescape_any s W hs)
  have HC := Lib.hid (fun W => chars_any s W)
  have HS := Lib.hid (fun W => space_any s W (by omega))
  rw [hu] at HU
  rw [hc] at HC
  have hX : ∀ w1 w2, Below w.heap.size w w1 → Below w1.heap.size w1 w2 → w2.cell? ⟨A, 2, none⟩ = some (.slice g 0 c) := fun w1 w2 h1 h2 => by
    rw [(h1.trans (h2.mono h1.size)).cell hx.lt]
    exact hx.cell 2
  have HX := Lib.hid hX
  clear hX hu hc
  generalize space s.data.toList = b at HS ⊢
  cases b with
  | false =>
    go_enter Tryd.func25, Tryd.ntmps25
    go_wp2_with (first | (go_at_call 29; refine (HU.out _).mono ?_; rintro e w1 ⟨rfl, hB1⟩; unfold Told) | (go_at_call 30; refine (HC.out _).mono ?_; rintro e w2 ⟨rfl, hB2⟩; have x2 := HX.out _ _ hB1 hB2) | (go_at_call 31; refine (HS.out _).mono ?_; rintro e w3 ⟨rfl, hB3⟩) | (go_at_call 27; first | (refine (must_no 6 _).mono ?_; rintro e w' ⟨rfl, rfl⟩) | (refine (must_ok _ _).mono ?_; rintro e w' ⟨rfl, rfl⟩)))
    exact ⟨rfl, rfl, (hB1.trans (hB2.mono hB1.size)).trans (hB3.mono (hB1.trans (hB2.mono hB1.size)).size)⟩
  | true =>
    go_enter Tryd.func25, Tryd.ntmps25
    go_wp2_with (first | (go_at_call 29; refine (HU.out _).mono ?_; rintro e w1 ⟨rfl, hB1⟩; unfold Told) | (go_at_call 30; refine (HC.out _).mono ?_; rintro e w2 ⟨rfl, hB2⟩; have x2 := HX.out _ _ hB1 hB2) | (go_at_call 31; refine (HS.out _).mono ?_; rintro e w3 ⟨rfl, hB3⟩) | (go_at_call 27; refine (must_ok _ _).mono ?_; rintro e w' ⟨rfl, rfl⟩))
    (try simp only [Exit.inBlock, Exit.then]); refine bodyPost_ret (results_none rfl _ _ _) rfl ?_
    exact ⟨rfl, (hB1.trans (hB2.mono hB1.size)).trans (hB3.mono (hB1.trans (hB2.mono hB1.size)).size)⟩
end Go.Proofs.YtppgjkjdddanbaaDoor
