/- what a call may change: the parser, bytes that belong to it, and what is new since the Feed began. A token told. -/
import Derived.Test.YtppgjkjdddanbaaDoorG4
namespace Go.Proofs.YtppgjkjdddanbaaDoor
open Go.RowKit
open Hb

def FrS (A base bt : Nat) (w : World) (k : Nat) : Prop := k = A ∨ (base ≤ k ∧ Tg w 5 k) ∨ (bt ≤ k ∧ (Tg w 25 k ∨ Tg w 34 k))
def Fr (A base bt : Nat) (w w' : World) : Prop := Only (FrS A base bt w) w w'
theorem Fr.refl (A base bt : Nat) (w : World) : Fr A base bt w w := Only.refl _ w
theorem Fr.below {A base bt : Nat} {w w' : World} (h : Below w.heap.size w w') : Fr A base bt w w' := Below.only h _
theorem Fr.trans {A base bt : Nat} {w w1 w2 : World} (h : Fr A base bt w w1) (k : Fr A base bt w1 w2) : Fr A base bt w w2 := by
  refine Only.trans h k (fun i hi hs => ?_)
  by_cases hc : FrS A base bt w i
  · exact hc
  · have he := h.block i hi hc
    unfold FrS Tg at *
    rwa [he] at hs
theorem Fr.of {A base bt : Nat} {w w' : World} {S : Nat → Prop} (h : Only S w w') (hs : ∀ k, S k → FrS A base bt w k) : Fr A base bt w w' := h.weaken hs
theorem Inv.frOut {w w' : World} {base bt A C : Nat} {p : PS} {ts : List Tok} {vw vo vout : Value} {cells : List Value} (h : Inv w base bt A C p ts vw vo vout cells) (ho : Only (fun k => k = C ∨ some k = vout.ownBlock) w w') : Fr A base bt w w' :=
  Fr.of ho (fun k hk => by
    rcases hk with rfl | hk
    · exact .inr (.inr ⟨h.hC, .inl h.cbox.tag⟩)
    · exact .inr (.inr ⟨ownBlock_base h.out k hk.symm, .inr (own_tag h.out k hk)⟩))

/-- the parser's cells other than what waits and what is open may be set. -/
theorem Inv.setFlag {w : World} {base bt A C : Nat} {p p' : PS} {ts : List Tok} {vw vo vout : Value} {cells : List Value} (h : Inv w base bt A C p ts vw vo vout cells) (i : Nat) (v : Value)
    (hcs : (#[vw, .int .u8 p.quote.toNat, vo, .bool p.rooted, .bool p.begun, .int .i64 p.broken] : Array Value).setIfInBounds i v = #[vw, .int .u8 p'.quote.toNat, vo, .bool p'.rooted, .bool p'.begun, .int .i64 p'.broken]) (h1 : p'.wait = p.wait) (h2 : p'.opn = p.opn) :
    Inv (w.setCell ⟨A, i, none⟩ v) base bt A C p' ts vw vo vout cells := by
  have ho := Only.set w A i v
  have hA : ∀ {T : TypeId} {k : Nat}, Tg w T k → T ≠ 47 → ¬ k = A := fun ht hn e => hn (by subst e; exact ht.ne h.box.tag)
  refine ⟨?_, ?_, ?_, ?_, ?_, ?_, h.hC⟩
  · rw [← hcs]; exact h.box.set i v
  · rw [h1]; exact own_only h.wait ho (fun g hg => hA (own_tag h.wait g hg) (by decide))
  · rw [h2]; exact own_only h.opn ho (fun g hg => hA (own_tag h.opn g hg) (by decide))
  · exact ho.box h.cbox (hA h.cbox.tag (by decide))
  · exact own_only h.out ho (fun g hg => hA (own_tag h.out g hg) (by decide))
  · exact tokCells_only ho (fun k hk ht => hA ht (by decide) hk) h.toks

/-- what is open is set. -/
theorem Inv.setOpn {w : World} {base bt A C : Nat} {p : PS} {ts : List Tok} {vw vo vout : Value} {cells : List Value} (h : Inv w base bt A C p ts vw vo vout cells) (vo' : Value) (o' : List ByteArray) (ho' : w.ownsRow 0 9 1 vo' o'.length (o'.map Value.string)) :
    Inv (w.setCell ⟨A, 2, none⟩ vo') base bt A C { p with opn := o' } ts vw vo' vout cells := by
  have ho := Only.set w A 2 vo'
  have hA : ∀ {T : TypeId} {k : Nat}, Tg w T k → T ≠ 47 → ¬ k = A := fun ht hn e => hn (by subst e; exact ht.ne h.box.tag)
  refine ⟨h.box.set 2 vo', ?_, ?_, ?_, ?_, ?_, h.hC⟩
  · exact own_only h.wait ho (fun g hg => hA (own_tag h.wait g hg) (by decide))
  · exact own_only ho' ho (fun g hg => hA (own_tag ho' g hg) (by decide))
  · exact ho.box h.cbox (hA h.cbox.tag (by decide))
  · exact own_only h.out ho (fun g hg => hA (own_tag h.out g hg) (by decide))
  · exact tokCells_only ho (fun k hk ht => hA ht (by decide) hk) h.toks

/-- what waits is set. -/
theorem Inv.setWait {w : World} {base base' bt A C : Nat} {p : PS} {ts : List Tok} {vw vo vout : Value} {cells : List Value} (h : Inv w base bt A C p ts vw vo vout cells) (vw' : Value) (l : List UInt8) (ho' : OwnB w base' 5 vw' l) :
    Inv (w.setCell ⟨A, 0, none⟩ vw') base' bt A C { p with wait := l } ts vw' vo vout cells := by
  have ho := Only.set w A 0 vw'
  have hA : ∀ {T : TypeId} {k : Nat}, Tg w T k → T ≠ 47 → ¬ k = A := fun ht hn e => hn (by subst e; exact ht.ne h.box.tag)
  refine ⟨h.box.set 0 vw', ?_, ?_, ?_, ?_, ?_, h.hC⟩
  · exact own_only ho' ho (fun g hg => hA (own_tag ho' g hg) (by decide))
  · exact own_only h.opn ho (fun g hg => hA (own_tag h.opn g hg) (by decide))
  · exact ho.box h.cbox (hA h.cbox.tag (by decide))
  · exact own_only h.out ho (fun g hg => hA (own_tag h.out g hg) (by decide))
  · exact tokCells_only ho (fun k hk ht => hA ht (by decide) hk) h.toks

theorem Fr.setA (A base bt i : Nat) (v : Value) (w : World) : Fr A base bt w (w.setCell ⟨A, i, none⟩ v) := Fr.of (Only.set w A i v) (fun _ h => .inl h)

/-- a token is told -/
theorem tellI {w : World} {base bt A C : Nat} {p : PS} {ts : List Tok} {vw vo vout : Value} {cells : List Value} (h : Inv w base bt A C p ts vw vo vout cells) (k : Nat) (ki : Int) (hki : ki = (k : Int)) (x tx : ByteArray) (al : List (ByteArray × ByteArray)) (va : Value) (hv : AttrRow w va al) (hb : bt ≤ w.heap.size) (hn : ts.length ≤ 10000000000) :
    Calls Tryd.prog 21 #[.slice (some ⟨w.heap.size, 0, none⟩) 1 1, pt C] (w.alloc (.cells #[.int .u8 ki, .string x, va, .string tx] 34)) fun o w' => o = .returned (.tuple #[]) ∧
      ∃ v1 cells', Inv w' base bt A C p (ts ++ [⟨k, x, al, tx⟩]) vw vo v1 cells' ∧ Fr A base bt w w' := by
  subst hki
  have hal : Below w.heap.size w (w.alloc (.cells #[.int .u8 k, .string x, va, .string tx] 34)) := (Below.refl _ w).alloc (Nat.le_refl _) _
  have h2 := h.below hal
  have hv2 : AttrRow (w.alloc (.cells #[.int .u8 k, .string x, va, .string tx] 34)) va al := row_below hv hal
  have hone : va.oneCell' = true := by
    obtain ⟨g, c, rfl⟩ := row_slice hv
    rfl
  refine (tell_any bt w.heap.size C ts.length vout cells [.int .u8 k, .string x, va, .string tx] _ h2.cbox h2.out (Nat.le_trans hb hal.size) rfl ?_ ?_ (by omega)).mono ?_
  · intro j u hj
    have hbx : Box (w.alloc (.cells #[.int .u8 k, .string x, va, .string tx] 34)) w.heap.size 34 #[.int .u8 k, .string x, va, .string tx] := (MapKept.heap_alloc w _).1
    have ha : (⟨w.heap.size, 0, none⟩ : Addr).add j = ⟨w.heap.size, 0 + j, none⟩ := by unfold Addr.add; split <;> simp_all
    rw [ha, hbx.cell, Nat.zero_add]
    simpa using hj
  · intro u hu
    simp only [List.mem_cons, List.not_mem_nil, or_false] at hu
    rcases hu with rfl | rfl | rfl | rfl
    · rfl
    · rfl
    · exact hone
    · rfl
  · rintro o w' ⟨h3, v1, h4, h5, h6⟩
    exact ⟨h3, v1, _, h2.told (t := ⟨k, x, al, tx⟩) h6 hv2 h5 h4, (Fr.below hal).trans (h2.frOut h6)⟩

theorem charsF (base bt A C : Nat) (p : PS) (ts : List Tok) (vw vo vout : Value) (cells : List Value) (s : ByteArray) (w : World) (h : Inv w base bt A C p ts vw vo vout cells) (hs : s.size ≤ 70368744177664) (hb : bt ≤ w.heap.size) (hn : ts.length ≤ 10000000000) :
    Calls Tryd.prog 25 #[pt A, .string s, tellV C] w fun o w' => match charsP p.opn s with
      | none => o = panic1 6 ∧ Below w.heap.size w w'
      | some l => o = .returned (.tuple #[]) ∧ ∃ vout' cells', Inv w' base bt A C p (ts ++ l) vw vo vout' cells' ∧ Fr A base bt w w' := by
  refine (charsI base bt A C p ts vw vo vout cells s w h hs hb hn).mono ?_
  intro o w' hK
  cases hc : charsP p.opn s with
  | none => rw [hc] at hK; exact hK
  | some l =>
    rw [hc] at hK
    obtain ⟨h1, v, cs, h2, h3⟩ := hK
    exact ⟨h1, v, cs, h2, h.frOut h3⟩
end Go.Proofs.YtppgjkjdddanbaaDoor
