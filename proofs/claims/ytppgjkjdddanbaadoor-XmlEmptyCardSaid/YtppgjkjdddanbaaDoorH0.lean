/- tokens in memory; the laws' own 'live'. -/
import Derived.Test.YtppgjkjdddanbaaDoorG12
namespace Go.Proofs.YtppgjkjdddanbaaDoor
open Go.RowKit
open Hb

theorem tokCells_at {w : World} : ∀ {ts : List Tok} {cs : List Value}, TokCells w ts cs → ∀ (i : Nat) (h : i < ts.length), ∃ va, cs[i * 4]? = some (.int .u8 ts[i].kind) ∧ cs[i * 4 + 1]? = some (.string ts[i].name) ∧ cs[i * 4 + 2]? = some va ∧ cs[i * 4 + 3]? = some (.string ts[i].text) ∧ AttrRow w va ts[i].attrs
  | [], _, _, i, h => absurd h (Nat.not_lt_zero _)
  | t :: ts, _, ⟨va, rest, rfl, ha, hr⟩, 0, _ => ⟨va, rfl, rfl, rfl, rfl, ha⟩
  | t :: ts, _, ⟨va, rest, rfl, ha, hr⟩, i + 1, h => by
    obtain ⟨vb, h1, h2, h3, h4, h5⟩ := tokCells_at hr i (by simpa using h)
    refine ⟨vb, ?_, ?_, ?_, ?_, by simpa using h5⟩
    · rw [Nat.succ_mul]; simpa using h1
    · rw [Nat.succ_mul]; simpa using h2
    · rw [Nat.succ_mul]; simpa using h3
    · rw [Nat.succ_mul]; simpa using h4

/-- what a Feed told, in memory. -/
def Told2 (w : World) (bt : Nat) (v : Value) (ts : List Tok) : Prop := ∃ cells, w.ownsRow bt 34 4 v ts.length cells ∧ TokCells w ts cells

theorem Told2.nilOr {w : World} {bt : Nat} {v : Value} {ts : List Tok} (h : Told2 w bt v ts) : ∃ a c, v = .slice a ts.length c ∧ (ts ≠ [] → ∃ g, a = some ⟨g, 0, none⟩ ∧ bt ≤ g ∧ g < w.heap.size ∧ Tg w 34 g) := by
  obtain ⟨cells, h1, h2⟩ := h
  rcases h1.2 with ⟨e1, e2⟩ | ⟨g, cap, cur, e1, e2, e3, _⟩
  · refine ⟨none, 0, by rw [e1, e2], fun hn => absurd (List.eq_nil_of_length_eq_zero e2) hn⟩
  · exact ⟨_, cap, e1, fun _ => ⟨g, rfl, e2, by rw [Array.getElem?_eq_some_iff] at e3; exact e3.1, cur, e3⟩⟩

theorem Told2.at {w : World} {bt g c n : Nat} {ts : List Tok} (h : Told2 w bt (.slice (some ⟨g, 0, none⟩) n c) ts) (i : Nat) (hi : i < ts.length) : ∃ va, w.cell? ⟨g, i * 4, none⟩ = some (.int .u8 ts[i].kind) ∧ w.cell? ⟨g, i * 4 + 1, none⟩ = some (.string ts[i].name) ∧ w.cell? ⟨g, i * 4 + 2, none⟩ = some va ∧ w.cell? ⟨g, i * 4 + 3, none⟩ = some (.string ts[i].text) ∧ AttrRow w va ts[i].attrs := by
  obtain ⟨cells, h1, h2⟩ := h
  obtain ⟨va, c0, c1, c2, c3, c4⟩ := tokCells_at h2 i hi
  have hn : ts.length = n := by
    rcases h1.2 with ⟨e1, e2⟩ | ⟨g, cap, cur, e1, _⟩
    · cases e1
    · cases e1; rfl
  have ha : ∀ i, (⟨g, 0, none⟩ : Addr).add i = ⟨g, i, none⟩ := by intro i; unfold Addr.add; split <;> simp_all
  have hc : ∀ j u, cells[j]? = some u → w.cell? ⟨g, j, none⟩ = some u := fun j u hj => by
    have := World.ownsRow.cells h1 (g := g) (by rfl) j u hj
    rwa [ha] at this
  exact ⟨va, hc _ _ c0, hc _ _ c1, hc _ _ c2, hc _ _ c3, c4⟩

theorem Told2.ff {A base bt : Nat} {w w' : World} {v : Value} {ts : List Tok} (h : Told2 w bt v ts) (hf : FF A base w w') (hA : Tg w 47 A) : Told2 w' bt v ts := by
  obtain ⟨cells, h1, h2⟩ := h
  refine ⟨cells, own_only h1 hf (fun g hg hs => ?_), tokCells_only hf (fun k hs ht => ?_) h2⟩
  · have ht := own_tag h1 g hg
    rcases hs with hs | ⟨_, hs⟩
    · subst hs; exact absurd (ht.ne hA) (by decide)
    · exact absurd (ht.ne hs) (by decide)
  · rcases hs with hs | ⟨_, hs⟩
    · subst hs; exact absurd (ht.ne hA) (by decide)
    · exact absurd (ht.ne hs) (by decide)
theorem Told2.below {bt : Nat} {w w' : World} {v : Value} {ts : List Tok} (h : Told2 w bt v ts) (hb : Below w.heap.size w w') : Told2 w' bt v ts := by
  obtain ⟨cells, h1, h2⟩ := h
  exact ⟨cells, row_below h1 hb, tokCells_only (Below.only hb (fun _ => False)) (fun _ h => h.elim) h2⟩

/-- a Feed of a whole parser, in the laws' words. -/
theorem feed_told (base0 base A : Nat) (p : PS) (l : List UInt8) (vw vo vb : Value) (w : World) (h : Par w base0 A p vw vo) (hbs : base0 = base ∨ ∃ c t, l = c :: t ∧ endsText p c = true) (hf : Fit8 p) (h0 : p.broken = 0) (hb : BytesAt w base A vb l) (hba : base ≤ w.heap.size) (hl : l.length ≤ 10000000) :
    Calls Tryd.prog 12 #[pt A, vb] w fun o w' => ∃ vw' vo' vout, o = .returned (.tuple #[vout, .int .i64 (runP p l).2.2]) ∧ Par w' base A (runP p l).1 vw' vo' ∧ Told2 w' w.heap.size vout (runP p l).2.1 ∧ FF A base w w' := by
  refine (feed_any base0 base A p l vw vo vb w h hbs hf h0 hb hba hl).mono ?_
  rintro o w' ⟨vw', vo', vout, cells, h1, h2, h3, h4, h5⟩
  exact ⟨vw', vo', vout, h1, h2, ⟨cells, h3, h4⟩, h5⟩

theorem live_one : runP ps0 [60, 97, 32, 98, 61, 39, 49, 39, 62, 120] = (⟨[120], 0, [⟨#[97]⟩], true, true, 0⟩, [⟨1, ⟨#[97]⟩, [(⟨#[98]⟩, ⟨#[49]⟩)], ⟨#[]⟩⟩], 0) := by kernel_rfl
theorem live_two : runP ⟨[120], 0, [⟨#[97]⟩], true, true, 0⟩ [60, 47, 97, 62] = (⟨[], 0, [], true, true, 0⟩, [⟨3, ⟨#[]⟩, [], ⟨#[120]⟩⟩, ⟨2, ⟨#[97]⟩, [], ⟨#[]⟩⟩], 0) := by kernel_rfl
end Go.Proofs.YtppgjkjdddanbaaDoor
