/- begin's closure, slices.IndexFunc and ContainsFunc at attributes; slices.Clone at texts. -/
import Derived.Test.YtppgjkjdddanbaaDoorG2
import Derived.LoopTactic
import Derived.Shelf.SlicesE.Clone
namespace Go.Proofs.YtppgjkjdddanbaaDoor
open Go.RowKit
open Hb

set_option maxRecDepth 100000 in
set_option maxHeartbeats 4000000 in
theorem clos_any (n v a : ByteArray) (B : Nat) (u : Value) (w : World) (hB : Box w B 53 #[.string a, u]) :
    Calls Tryd.prog 53 #[.agg #[.string n, .string v], pt B] w fun e w' => e = .returned (.bool (n.toList == a.toList)) ∧ Below w.heap.size w w' := by
  have x0 : (w.alloc (.cells #[.string n, .string v] 53)).cell? ⟨B, 0, none⟩ = some (.string a) := by
    rw [World.cell?_of_block (w := w) (Below.heap_alloc w _ _ hB.lt)]
    exact hB.cell 0
  go_enter Tryd.func53, Tryd.ntmps53
  go_wp2
  go_returns
  exact ⟨rfl, (Below.refl _ w).alloc (Nat.le_refl _) _⟩

theorem attrCells {w : World} {g : Nat} {cap n : Nat} {l : List (ByteArray × ByteArray)} (h : AttrRow w (.slice (some ⟨g, 0, none⟩) n cap) l) (k : Nat) (hk : k < l.length) :
    w.cell? ⟨g, k * 2, none⟩ = some (.string l[k].1) ∧ w.cell? ⟨g, k * 2 + 1, none⟩ = some (.string l[k].2) := by
  have hf : ∀ (l : List (ByteArray × ByteArray)) (k : Nat) (hk : k < l.length), (l.flatMap fun p => [Value.string p.1, Value.string p.2])[k * 2]? = some (.string l[k].1) ∧ (l.flatMap fun p => [Value.string p.1, Value.string p.2])[k * 2 + 1]? = some (.string l[k].2) := by
    intro l
    induction l with
    | nil => intro k hk; cases hk
    | cons x l ih =>
      intro k hk
      cases k with
      | zero => exact ⟨rfl, rfl⟩
      | succ k =>
        have := ih k (by simpa using hk)
        rw [Nat.succ_mul]
        exact this
  have ha : ∀ i, (⟨g, 0, none⟩ : Addr).add i = ⟨g, i, none⟩ := by intro i; unfold Addr.add; split <;> simp_all
  constructor
  · have := World.ownsRow.cells h (g := g) rfl (k * 2) _ (hf l k hk).1
    rwa [ha] at this
  · have := World.ownsRow.cells h (g := g) rfl (k * 2 + 1) _ (hf l k hk).2
    rwa [ha] at this

def hasName (l : List (ByteArray × ByteArray)) (a : ByteArray) : Bool := l.any fun b => b.1.toList == a.toList

set_option maxRecDepth 100000 in
set_option maxHeartbeats 4000000 in
theorem idxF_any (g cap : Nat) (l : List (ByteArray × ByteArray)) (a : ByteArray) (B : Nat) (u : Value) (w : World) (hl : AttrRow w (.slice (some ⟨g, 0, none⟩) l.length cap) l) (hB : Box w B 53 #[.string a, u]) (hn : l.length ≤ 100000000) :
    Calls Tryd.prog 65 #[.slice (some ⟨g, 0, none⟩) l.length cap, .func (.func 53) #[] #[pt B]] w fun e w' => (∃ k : Int, e = .returned (.int .i64 k) ∧ decide (0 ≤ k) = hasName l a) ∧ Below w.heap.size w w' := by
  go_enter Tryd.func65, Tryd.ntmps65
  go_wp2
  go_loopw [8] (fun i W => ∃ k : Nat, k ≤ l.length ∧ i = .int .i64 k ∧ Hid (hasName (l.take k) a = false) ∧ Below w.heap.size w W) (fun i _ => l.length - (intOf i).toNat)
  case atStart => exact ⟨0, Nat.zero_le _, rfl, rfl, Below.refl _ w⟩
  case round =>
    obtain ⟨k, hk, rfl, HC, hW⟩ := hrel
    by_cases hlt : k < l.length
    · have hgl : g < w.heap.size := (World.ownsRow.lt hl g rfl).2
      have hb : Below w.heap.size w wr := hW
      have y0 : wr.cell? ⟨g, k * 2, none⟩ = some (.string l[k].1) := (hb.cell (p := ⟨g, k * 2, none⟩) hgl).trans (attrCells hl k hlt).1
      have y1 : wr.cell? ⟨g, k * 2 + 1, none⟩ = some (.string l[k].2) := (hb.cell (p := ⟨g, k * 2 + 1, none⟩) hgl).trans (attrCells hl k hlt).2
      have HB := Lib.hid (clos_any l[k].1 l[k].2 a B u wr ((hb.block B hB.lt).trans hB))
      have hs : hasName (l.take (k + 1)) a = (l[k].1.toList == a.toList) := by
        unfold hasName at HC ⊢
        rw [← List.take_append_getElem hlt, List.any_append, HC.out]
        simp
      have hs2 : (l[k].1.toList == a.toList) = true → hasName l a = true := fun h => by
        unfold hasName
        exact List.any_eq_true.2 ⟨l[k], List.getElem_mem _, h⟩
      have HS := Lib.hid hs
      have HS2 := Lib.hid hs2
      clear hs hs2
      generalize (l[k].1.toList == a.toList) = m at HB HS HS2
      cases m with
      | true =>
        go_wp2_with fail
        with_reducible refine HB.out.mono ?_
        rintro e w1 ⟨rfl, hB1⟩
        go_wp2_with fail
        go_returns
        exact ⟨⟨k, rfl, by rw [HS2.out (by trivial)]; simp⟩, hb.trans (hB1.mono hb.size)⟩
      | false =>
        go_wp2_with fail
        with_reducible refine HB.out.mono ?_
        rintro e w1 ⟨rfl, hB1⟩
        go_wp2_with fail
        go_roundw
        case rel => exact ⟨k + 1, by omega, by go_num, HS.out, hb.trans (hB1.mono hb.size)⟩
        case measure => simp [intOf]; omega
    · have hkl : k = l.length := by omega
      subst hkl
      rw [List.take_length] at HC
      go_wp2_with fail
      go_returns
      exact ⟨⟨-1, rfl, by rw [HC.out]; decide⟩, hW⟩

set_option maxRecDepth 100000 in
set_option maxHeartbeats 4000000 in
theorem conF_any (g cap : Nat) (l : List (ByteArray × ByteArray)) (a : ByteArray) (B : Nat) (u : Value) (w : World) (hl : AttrRow w (.slice (some ⟨g, 0, none⟩) l.length cap) l) (hB : Box w B 53 #[.string a, u]) (hn : l.length ≤ 100000000) :
    Calls Tryd.prog 52 #[.slice (some ⟨g, 0, none⟩) l.length cap, .func (.func 53) #[] #[pt B]] w fun e w' => e = .returned (.bool (hasName l a)) ∧ Below w.heap.size w w' := by
  have H := Lib.hid (idxF_any g cap l a B u w hl hB hn)
  generalize hasName l a = r at H ⊢
  go_enter Tryd.func52, Tryd.ntmps52
  go_wp2_with fail
  with_reducible refine H.out.mono ?_
  rintro e w1 ⟨⟨k, rfl, rfl⟩, hB1⟩
  go_wp2_with fail
  go_returns
  exact ⟨rfl, hB1⟩

theorem infoStr : (Tryd.prog.info? 9).map (fun i => (i.zero, i.size, i.bytes)) = some (some (.string ⟨#[]⟩), 1, 16) := by kernel_rfl

set_option maxRecDepth 100000 in
set_option maxHeartbeats 4000000 in
theorem cloneStr_nil (w : World) :
    Calls Tryd.prog 24 #[.slice none 0 0] w fun e w' => e = .returned (.slice none 0 0) ∧ w' = w := by
  have hq : ∀ (w : World) (a : Option Addr) (n c : Nat), (binOp .eql 30 (.slice a n c) (.slice none 0 0)).run Tryd.prog w = .ok (.bool a.isNone) w := fun w a n c => Lib.run_eql_slice_nil w _ _ a n c 0 0 Tryd.underlying30
  go_enter Tryd.func24, Tryd.ntmps24
  go_wp2_with fail
  go_returns
  exact ⟨rfl, rfl⟩

set_option maxRecDepth 100000 in
set_option maxHeartbeats 4000000 in
theorem cloneStr_some (base g n cap : Nat) (xs : List Value) (w : World) (h : w.ownsRow base 9 1 (.slice (some ⟨g, 0, none⟩) n cap) n xs) (h1 : ∀ u ∈ xs, u.oneCell' = true) (hn : n ≤ 100000000000) :
    Calls Tryd.prog 24 #[.slice (some ⟨g, 0, none⟩) n cap] w fun e w' => ∃ v, e = .returned v ∧ w'.ownsRow w.heap.size 9 1 v n xs ∧ Below w.heap.size w w' := by
  obtain ⟨i0, hi, hz0, hz1, hz2⟩ := info_parts infoStr
  have hl : xs.length = n * 1 := h.1
  have hgl : g < w.heap.size := (World.ownsRow.lt h g rfl).2
  have hcells : ∀ j u, xs[j]? = some u → (w.alloc (.cells #[] 9)).cell? ((⟨g, 0, none⟩ : Addr).add j) = some u := fun j u hj => by
    have := World.ownsRow.cells h (g := g) rfl j u hj
    rw [← this]
    have ha : (⟨g, 0, none⟩ : Addr).add j = ⟨g, 0 + j, none⟩ := by unfold Addr.add; split <;> simp_all
    rw [ha]
    exact World.cell?_of_block (w := w) (Below.heap_alloc w _ _ hgl)
  have hmade := World.ownsRow_made (e := 9) (size := 1) (base := w.heap.size) w #[] 0 (Nat.le_refl _) (by decide) rfl
  have HH := Lib.hid (And.intro hcells hmade)
  clear hcells hmade
  have hq : ∀ (w : World) (a : Option Addr) (n c : Nat), (binOp .eql 30 (.slice a n c) (.slice none 0 0)).run Tryd.prog w = .ok (.bool a.isNone) w := fun w a n c => Lib.run_eql_slice_nil w _ _ a n c 0 0 Tryd.underlying30
  go_enter Tryd.func24, Tryd.ntmps24
  go_wp2_with (at_builtin; refine wpList_append_own _ rfl (.tmp 5) (.tmp 6) 30 rfl w.heap.size 9 i0 (.string ⟨#[]⟩) 1 16 Tryd.underlying30 hi hz0 hz1 hz2 rfl (by omega) (.slice (some ⟨w.heap.size, 0, none⟩) 0 0) 0 [] rfl HH.out.2 ⟨g, 0, none⟩ n cap xs rfl hl HH.out.1 h1 (by simp only [maxLen]; omega) (by omega) ((Below.refl w.heap.size w).alloc (Nat.le_refl _) (.cells #[] 9)).size ?_; intro v1 w1 hown hg _; rw [Nat.zero_add] at hown; obtain ⟨q1, q2, rfl⟩ := row_slice hown)
  go_returns
  refine ⟨_, rfl, hown, ((Below.refl w.heap.size w).alloc (Nat.le_refl _) (.cells #[] 9)).grown hg ((Below.refl w.heap.size w).alloc (Nat.le_refl _) (.cells #[] 9)).size ?_⟩
  intro k hk
  obtain rfl : w.heap.size = k := by simpa [Value.ownBlock] using hk
  exact Nat.le_refl _

theorem cloneStr_any (base n : Nat) (v : Value) (xs : List Value) (w : World) (h : w.ownsRow base 9 1 v n xs) (h1 : ∀ u ∈ xs, u.oneCell' = true) (hn : n ≤ 100000000000) :
    Calls Tryd.prog 24 #[v] w fun e w' => ∃ v, e = .returned v ∧ w'.ownsRow w.heap.size 9 1 v n xs ∧ Below w.heap.size w w' := by
  rcases h.2 with ⟨rfl, rfl⟩ | ⟨g, cap, cur, rfl, h2⟩
  · refine (cloneStr_nil w).mono ?_
    rintro e w' ⟨h3, rfl⟩
    obtain rfl : xs = [] := List.eq_nil_of_length_eq_zero (by rw [h.1, Nat.zero_mul])
    exact ⟨_, h3, World.ownsRow_nil _ _ _ _, Below.refl _ _⟩
  · exact cloneStr_some base g n cap xs w h h1 hn
end Go.Proofs.YtppgjkjdddanbaaDoor
