/- xml's chars, as the plain function tells it. -/
import Derived.Test.YtppgjkjdddanbaaDoorG0
namespace Go.Proofs.YtppgjkjdddanbaaDoor
open Go.RowKit
open Hb

def panic1 (k : Int) : Ending := .panicked [{ v := faultV k, recovered := false }]

theorem Inv.notOut {w : World} {base bt A C : Nat} {p : PS} {ts : List Tok} {vw vo vout : Value} {cells : List Value} (h : Inv w base bt A C p ts vw vo vout cells) {T : TypeId} {k : Nat} (ht : Tg w T k) (h1 : T ≠ 25) (h2 : T ≠ 34) :
    ¬ (k = C ∨ some k = vout.ownBlock) := by
  rintro (rfl | hk)
  · exact h1 (ht.ne h.cbox.tag)
  · exact h2 (ht.ne (own_tag h.out k hk))

theorem Inv.told {w w' : World} {base bt A C : Nat} {p : PS} {ts : List Tok} {vw vo vout : Value} {cells : List Value} (h : Inv w base bt A C p ts vw vo vout cells) (ho : Only (fun k => k = C ∨ some k = vout.ownBlock) w w') {t : Tok} {va v1 : Value}
    (hv : AttrRow w va t.attrs) (hb : Box w' C 25 #[v1]) (hr : w'.ownsRow bt 34 4 v1 (ts.length + 1) (cells ++ [.int .u8 t.kind, .string t.name, va, .string t.text])) :
    Inv w' base bt A C p (ts ++ [t]) vw vo v1 (cells ++ [.int .u8 t.kind, .string t.name, va, .string t.text]) :=
  ⟨ho.box h.box (h.notOut h.box.tag (by decide) (by decide)), own_only h.wait ho (fun g hg => h.notOut (own_tag h.wait g hg) (by decide) (by decide)), own_only h.opn ho (fun g hg => h.notOut (own_tag h.opn g hg) (by decide) (by decide)), hb,
   by rw [List.length_append]; exact hr, tokCells_only ho (fun k hk ht => h.notOut ht (by decide) (by decide) hk) (tokCells_add hv h.toks), h.hC⟩

set_option maxRecDepth 100000 in
set_option maxHeartbeats 4000000 in
theorem xchars_nil (A C : Nat) (vw q ro be br : Value) (g : Option Addr) (d c : Nat) (s : ByteArray) (w : World) (hs : s.size ≤ 70368744177664) (hx : Box w A 47 #[vw, q, .slice g (d + 1 : Nat) c, ro, be, br])
    (hu : unesc (s.size + 1) s.data.toList = some []) (hc : chars s.data.toList = true) :
    Calls Tryd.prog 25 #[pt A, .string s, tellV C] w fun o w' => o = .returned (.tuple #[]) ∧ Below w.heap.size w w' := by
  have HU := Lib.hid (fun W => unescape_any s W hs)
  have HC := Lib.hid (fun W => chars_any s W)
  rw [hu] at HU
  rw [hc] at HC
  have hX : ∀ w1 w2, Below w.heap.size w w1 → Below w1.heap.size w1 w2 → w2.cell? ⟨A, 2, none⟩ = some (.slice g (d + 1 : Nat) c) := fun w1 w2 h1 h2 => by
    rw [(h1.trans (h2.mono h1.size)).cell hx.lt]
    exact hx.cell 2
  have HX := Lib.hid hX
  have e0 : (((d + 1 : Nat) : Int) == 0) = false := by rw [beq_eq_false_iff_ne]; omega
  have e1 : ((⟨([] : List UInt8).toArray⟩ : ByteArray).toList == []) = true := by rw [ByteArray.toList_eq]; rfl
  clear hX hu hc
  have e2 : ((⟨([] : List UInt8).toArray⟩ : ByteArray).toList != []) = false := by unfold bne; rw [e1]; rfl
  unfold tellV
  go_enter Tryd.func25, Tryd.ntmps25
  go_wp2_with (first | (go_at_call 29; refine (HU.out _).mono ?_; rintro e w1 ⟨rfl, hB1⟩; unfold Told) | (go_at_call 30; refine (HC.out _).mono ?_; rintro e w2 ⟨rfl, hB2⟩; have x2 := HX.out _ _ hB1 hB2) | (go_at_call 27; refine (must_ok _ _).mono ?_; rintro e w' ⟨rfl, rfl⟩))
  go_returns
  exact ⟨rfl, hB1.trans (hB2.mono hB1.size)⟩

theorem charsI (base bt A C : Nat) (p : PS) (ts : List Tok) (vw vo vout : Value) (cells : List Value) (s : ByteArray) (w : World) (h : Inv w base bt A C p ts vw vo vout cells) (hs : s.size ≤ 70368744177664) (hb : bt ≤ w.heap.size) (hn : ts.length ≤ 10000000000) :
    Calls Tryd.prog 25 #[pt A, .string s, tellV C] w fun o w' => match charsP p.opn s with
      | none => o = panic1 6 ∧ Below w.heap.size w w'
      | some l => o = .returned (.tuple #[]) ∧ ∃ vout' cells', Inv w' base bt A C p (ts ++ l) vw vo vout' cells' ∧ Only (fun k => k = C ∨ some k = vout.ownBlock) w w' := by
  unfold charsP
  obtain ⟨g, c, hvo⟩ := row_slice h.opn
  have hx := h.box
  cases hc : chars s.data.toList with
  | false =>
    rw [if_neg (by decide)]
    exact xchars_bad A s _ w hs (.inr hc)
  | true =>
    rw [if_pos rfl]
    cases hu : unesc (s.size + 1) s.data.toList with
    | none => exact xchars_bad A s _ w hs (.inl hu)
    | some t =>
      cases ho : p.opn with
      | nil =>
        rw [ho] at hvo
        rw [hvo] at hx
        have hK := xchars_out A _ _ _ _ _ g c s t (tellV C) w hs hx hu hc
        dsimp only
        cases hsp : space s.data.toList with
        | false =>
          rw [hsp] at hK
          rw [if_neg (by decide)]
          exact hK
        | true =>
          rw [hsp] at hK
          rw [if_pos rfl]
          refine hK.mono ?_
          rintro o w' ⟨h1, h2⟩
          refine ⟨h1, vout, cells, ?_, Below.only h2 _⟩
          rw [List.append_nil]
          exact h.below h2
      | cons x l =>
        rw [ho] at hvo
        rw [hvo] at hx
        cases t with
        | nil =>
          refine (xchars_nil A C _ _ _ _ _ g l.length c s w hs hx hu hc).mono ?_
          rintro o w' ⟨h1, h2⟩
          refine ⟨h1, vout, cells, ?_, Below.only h2 _⟩
          rw [List.append_nil]
          exact h.below h2
        | cons b t =>
          refine (xchars_in A C _ _ _ _ _ g l.length c s b t w hs hx hu hc bt ts.length vout cells h.cbox h.out hb (by omega)).mono ?_
          rintro o w' ⟨h1, v1, h2, h3, h4⟩
          exact ⟨h1, v1, _, h.told (t := ⟨3, ⟨#[]⟩, [], ⟨(b :: t).toArray⟩⟩) h4 (World.ownsRow_nil w 0 _ 2) h3 h2, h4⟩
end Go.Proofs.YtppgjkjdddanbaaDoor
