/- XmlCuts: what holds ahead of a round, behind a Feed, behind the append. -/
import Derived.Test.YtppgjkjdddanbaaDoorH9
namespace Go.Proofs.YtppgjkjdddanbaaDoor
open Go.RowKit
open Hb

/-- what a law that cuts bytes holds: the parser q behind the first 'at' bytes, what it told, and what p told of all. -/
def InvC (w W : World) (Ap Aq bo b1 : Nat) (lf : List UInt8) (ts1 : List Tok) (v1 : Value) (cp : Array Value) (m f : Nat) (ov : Value) : Prop := ∃ (pq : PS) (tq : List Tok) (vw vo : Value) (cells : List Value),
  runP ps0 (lf.take m) = (pq, tq, f) ∧ Par W w.heap.size Aq pq vw vo ∧ W.ownsRow bo 34 4 ov tq.length cells ∧ TokCells W tq cells ∧ Told2 W b1 v1 ts1 ∧ (∀ k, some k = v1.ownBlock → k < bo) ∧ Box W Ap 47 cp ∧ Below w.heap.size w W ∧ bo ≤ W.heap.size

def MidC (w W : World) (Ap Aq bo b1 : Nat) (lf : List UInt8) (ts1 : List Tok) (v1 : Value) (cp : Array Value) (m f : Nat) (ov v3 : Value) (n0 n3 : Nat) (cells cells3 : List Value) : Prop := ∃ (pq : PS) (tq tl : List Tok) (vw vo : Value) (b3 : Nat),
  runP ps0 (lf.take m) = (pq, tq ++ tl, f) ∧ Par W w.heap.size Aq pq vw vo ∧ n0 = tq.length ∧ n3 = tl.length ∧ W.ownsRow bo 34 4 ov n0 cells ∧ TokCells W tq cells ∧ W.ownsRow b3 34 4 v3 n3 cells3 ∧ TokCells W tl cells3 ∧ Told2 W b1 v1 ts1 ∧ (∀ k, some k = v1.ownBlock → k < bo) ∧ Box W Ap 47 cp ∧ Below w.heap.size w W ∧ bo ≤ W.heap.size

theorem take_seg (lf : List UInt8) (m n : Nat) : lf.take (m + n) = lf.take m ++ (lf.drop m).take n := by rw [List.take_add]

theorem InvC.feed {w W : World} {Ap Aq bo b1 : Nat} {lf : List UInt8} {ts1 : List Tok} {v1 : Value} {cp : Array Value} {m : Nat} {ov : Value} (h : InvC w W Ap Aq bo b1 lf ts1 v1 cp m 0 ov) (n : Nat) (g off c : Nat) (hq : w.heap.size ≤ Aq) (hne : Ap ≠ Aq) (hbo : Aq < bo)
    (hlen : lf.length ≤ 3000) (hmn : m + n ≤ lf.length) (hg : g < w.heap.size) (hx : ∀ i (h : i < lf.length), w.cell? ⟨g, off + i, none⟩ = some (.int .u8 lf[i].toNat)) :
    Calls Tryd.prog 12 #[pt Aq, .slice (some ⟨g, off + m, none⟩) n c] W fun o w' => ∃ (v3 : Value) (f n0 n3 : Nat) (cells cells3 : List Value), o = .returned (.tuple #[v3, .int .i64 f]) ∧ MidC w w' Ap Aq bo b1 lf ts1 v1 cp (m + n) f ov v3 n0 n3 cells cells3 := by
  obtain ⟨pq, tq, vw, vo, cells, h1, h2, h3, h4, h5, h6, h7, h8, h9⟩ := h
  have hfit := runP_fit (lf.take m) ps0 fit0
  rw [h1] at hfit
  have hsl : ((lf.drop m).take n).length = n := by rw [List.length_take, List.length_drop]; omega
  have hB : BytesAt W w.heap.size Aq (.slice (some ⟨g, off + m, none⟩) n c) ((lf.drop m).take n) := by
    refine ⟨_, _, by rw [hsl], .inr ⟨g, off + m, rfl, hg, by omega, fun i hi => ?_⟩⟩
    rw [hsl] at hi
    rw [h8.cell (p := ⟨g, off + m + i, none⟩) hg, Nat.add_assoc, hx (m + i) (by omega)]
    simp
  refine (feed_told w.heap.size w.heap.size Aq pq ((lf.drop m).take n) vw vo _ W h2 (.inl rfl) (hfit.2.2.1 rfl) (hfit.2.2.2 rfl) hB h8.size (by omega)).mono ?_
  rintro o w' ⟨vw', vo', v3, k1, k2, ⟨cells3, k3, k4⟩, k5⟩
  have hA := h2.box.tag
  refine ⟨v3, _, tq.length, _, cells, cells3, k1, (runP pq ((lf.drop m).take n)).1, tq, (runP pq ((lf.drop m).take n)).2.1, vw', vo', _, ?_, k2, rfl, rfl, ?_, ?_, k3, k4, h5.ff k5 hA, h6, ?_, h8.trans (k5.belowOf hq (Nat.le_refl _) h8.size), Nat.le_trans h9 k5.size⟩
  · rw [take_seg, runP_append _ _ _ (by rw [h1]), h1]
  · exact own_only h3 k5 (fun k hk hs => by
      have ht := own_tag h3 k hk
      rcases hs with hs | ⟨_, hs⟩
      · subst hs; exact absurd (ht.ne hA) (by decide)
      · exact absurd (ht.ne hs) (by decide))
  · exact tokCells_only k5 (fun k hs ht => by
      rcases hs with hs | ⟨_, hs⟩
      · subst hs; exact absurd (ht.ne hA) (by decide)
      · exact absurd (ht.ne hs) (by decide)) h4
  · exact Only.box k5 h7 (fun hs => by
      rcases hs with hs | ⟨_, hs⟩
      · exact hne hs
      · exact absurd (h7.tag.ne hs) (by decide))

theorem MidC.none {w W : World} {Ap Aq bo b1 : Nat} {lf : List UInt8} {ts1 : List Tok} {v1 : Value} {cp : Array Value} {m f : Nat} {ov : Value} {n0 n3 : Nat} {cells cells3 : List Value} (h : MidC w W Ap Aq bo b1 lf ts1 v1 cp m f ov (.slice none 0 0) n0 n3 cells cells3) : InvC w W Ap Aq bo b1 lf ts1 v1 cp m f ov := by
  obtain ⟨pq, tq, tl, vw, vo, b3, h1, h2, rfl, rfl, h3, h4, h5, h6, h7, h8, h9, h10, h11⟩ := h
  have htl : tl = [] := by
    rcases h5.2 with ⟨_, e2⟩ | ⟨g, cap, cur, e1, _⟩
    · exact List.eq_nil_of_length_eq_zero e2
    · cases e1
  subst htl
  rw [List.append_nil] at h1
  exact ⟨pq, tq, vw, vo, cells, h1, h2, h3, h4, h7, h8, h9, h10, h11⟩

theorem MidC.app {w W w2 : World} {Ap Aq bo b1 : Nat} {lf : List UInt8} {ts1 : List Tok} {v1 : Value} {cp : Array Value} {m f : Nat} {ov v3 v' : Value} {n0 n3 : Nat} {cells cells3 : List Value} (h : MidC w W Ap Aq bo b1 lf ts1 v1 cp m f ov v3 n0 n3 cells cells3)
    (hbw : w.heap.size ≤ bo) (hown : w2.ownsRow bo 34 4 v' (n0 + n3) (cells ++ cells3)) (hg : W.grownBy w2 ov.ownBlock) : InvC w w2 Ap Aq bo b1 lf ts1 v1 cp m f v' := by
  obtain ⟨pq, tq, tl, vw, vo, b3, h1, h2, rfl, rfl, h3, h4, h5, h6, ⟨c1, h7, h7'⟩, h8, h9, h10, h11⟩ := h
  have ho := grown_only hg
  have hT : ∀ {T : TypeId} {k : Nat}, Tg W T k → T ≠ 34 → ¬ some k = ov.ownBlock := fun ht hn e => hn (ht.ne (own_tag h3 _ e))
  have htk : ∀ {us : List Tok} {cs : List Value}, TokCells W us cs → TokCells w2 us cs := fun hc => tokCells_only ho (fun k hk ht => hT ht (by decide) hk) hc
  refine ⟨pq, tq ++ tl, vw, vo, cells ++ cells3, h1, ⟨ho.box h2.box (hT h2.box.tag (by decide)), own_only h2.wait ho (fun k hk => hT (own_tag h2.wait k hk) (by decide)), own_only h2.opn ho (fun k hk => hT (own_tag h2.opn k hk) (by decide))⟩,
    by rw [List.length_append]; exact hown, tokCells_app (htk h4) (htk h6), ⟨c1, own_only h7 ho (fun k hk hs => ?_), htk h7'⟩, h8, ho.box h9 (hT h9.tag (by decide)), ?_, Nat.le_trans h11 hg.size⟩
  · have := h8 k hk
    have := ownBlock_base h3 k hs.symm
    omega
  · refine ⟨hg.os.trans h10.os, hg.tape.trans h10.tape, hg.output.trans h10.output, Nat.le_trans h10.size hg.size, fun k hk => (hg.block k (Nat.lt_of_lt_of_le hk h10.size) (fun e => ?_)).trans (h10.block k hk)⟩
    have := ownBlock_base h3 k e.symm
    omega
end Go.Proofs.YtppgjkjdddanbaaDoor
