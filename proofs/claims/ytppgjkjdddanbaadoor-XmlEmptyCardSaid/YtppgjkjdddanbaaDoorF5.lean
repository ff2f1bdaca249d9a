/- the closure that tells: a token behind the others. -/
import Derived.Test.YtppgjkjdddanbaaDoorF4
import Derived.Test.YtppgjkjdddanbaaDoorBld
namespace Go.Proofs.YtppgjkjdddanbaaDoor
open Go.RowKit
open Hb

def tokZero : Value := .agg #[.int .u8 0, .string ⟨#[]⟩, .slice none 0 0, .string ⟨#[]⟩]
theorem infoTok : (Tryd.prog.info? 34).map (fun i => (i.zero, i.size, i.bytes)) = some (some tokZero, 4, 64) := by kernel_rfl

theorem row_slice {w : World} {base : Nat} {e : TypeId} {k : Nat} {v : Value} {n : Nat} {xs : List Value} (h : w.ownsRow base e k v n xs) : ∃ A c, v = .slice A n c := by
  rcases h.2 with ⟨rfl, h0⟩ | ⟨g, cap, cur, rfl, _⟩
  · exact ⟨none, 0, by rw [h0]⟩
  · exact ⟨_, cap, rfl⟩

set_option maxRecDepth 100000 in
set_option maxHeartbeats 4000000 in
theorem tell_any (base B C n : Nat) (vout : Value) (cells news : List Value) (w : World) (hC : Box w C 25 #[vout]) (ho : w.ownsRow base 34 4 vout n cells) (hb : base ≤ w.heap.size)
    (hl : news.length = 1 * 4) (hnews : ∀ j u, news[j]? = some u → w.cell? ((⟨B, 0, none⟩ : Addr).add j) = some u) (h1 : ∀ u ∈ news, u.oneCell' = true) (hn : n ≤ 100000000000) :
    Calls Tryd.prog 21 #[.slice (some ⟨B, 0, none⟩) 1 1, pt C] w fun e w' => e = .returned (.tuple #[]) ∧
      ∃ v1, w'.ownsRow base 34 4 v1 (n + 1) (cells ++ news) ∧ Box w' C 25 #[v1] ∧ Only (fun k => k = C ∨ some k = vout.ownBlock) w w' := by
  have x0 : w.cell? ⟨C, 0, none⟩ = some vout := hC.cell 0
  obtain ⟨i0, hi, hz0, hz1, hz2⟩ := info_parts infoTok
  have hne : some C ≠ vout.ownBlock := by
    intro he
    rcases ho.2 with ⟨rfl, _⟩ | ⟨g, cap, cur, rfl, _, hg, _⟩
    · cases he
    · obtain rfl : C = g := by simpa [Value.ownBlock] using he
      have := hC.symm.trans hg
      simp at this
  have step : ∀ v1 w1, w1.ownsRow base 34 4 v1 (n + 1) (cells ++ news) → w.grownBy w1 vout.ownBlock →
      ∃ v2, (w1.setCell ⟨C, 0, none⟩ v1).ownsRow base 34 4 v2 (n + 1) (cells ++ news) ∧ Box (w1.setCell ⟨C, 0, none⟩ v1) C 25 #[v2] ∧ Only (fun k => k = C ∨ some k = vout.ownBlock) w (w1.setCell ⟨C, 0, none⟩ v1) := by
    intro v1 w1 hown hg
    have hC1 : Box w1 C 25 #[vout] := (hg.block C hC.lt hne).trans hC
    refine ⟨v1, ⟨hown.1, ?_⟩, hC1.set 0 v1, (grown_only hg).weaken (fun _ h => .inr h) |>.trans (Only.set w1 C 0 v1) (fun i _ h => .inl h)⟩
    rcases hown.2 with h0 | ⟨g, cap, cur, e1, e2, e3, e4⟩
    · exact .inl h0
    · refine .inr ⟨g, cap, cur, e1, e2, ?_, e4⟩
      have hgC : g ≠ C := by
        rintro rfl
        have := hC1.symm.trans e3
        simp at this
      rw [(Only.set w1 C 0 v1).block g (by rw [Array.getElem?_eq_some_iff] at e3; exact e3.1) hgC]
      exact e3
  have fz : ∀ (v1 : Value) (w1 : World), w.grownBy w1 vout.ownBlock → (w1.frozen? ⟨C, 0, none⟩ = false ∧ w1.cell? ⟨C, 0, none⟩ = some vout) := fun v1 w1 hg => by
    have hC1 : Box w1 C 25 #[vout] := (hg.block C hC.lt hne).trans hC
    exact ⟨hC1.f 0, hC1.cell 0⟩
  clear hne
  have HS := Lib.hid step
  have HF := Lib.hid fz
  clear step fz
  go_enter Tryd.func21, Tryd.ntmps21
  go_wp2_with (at_builtin; refine wpList_append_own w rfl (.tmp 3) (.tmp 4) 25 rfl base 34 i0 tokZero 4 64 Tryd.underlying25 hi hz0 hz1 hz2 rfl (by omega) vout n cells rfl ho ⟨B, 0, none⟩ 1 1 news rfl hl hnews h1 (by simp only [maxLen]; omega) (by omega) hb ?_; intro v1 w1 hown hg _; obtain ⟨f1, c1⟩ := HF.out v1 w1 hg; obtain ⟨q1, q2, rfl⟩ := row_slice hown)
  go_end0
  exact ⟨rfl, HS.out _ w1 hown hg⟩
end Go.Proofs.YtppgjkjdddanbaaDoor
