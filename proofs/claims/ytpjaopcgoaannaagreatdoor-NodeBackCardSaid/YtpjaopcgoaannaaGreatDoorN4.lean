/- slices.IndexFunc, ContainsFunc and Clone at the structs of a node. Written by gen_n4.py. -/
import Derived.Test.YtpjaopcgoaannaaGreatDoorChecked
import Derived.Test.YtpjaopcgoaannaaGreatDoorN3
import Derived.Handy
import Derived.Lib.Hide
import Derived.LoopTactic
import Derived.Laws.Externs
import Derived.Shelf.SlicesE.Clone
namespace Go.Proofs.YtpjaopcgoaannaaGreatDoor
open Go.RowKit
open Hb

def idxP {α : Type} (p : α → Bool) (l : List α) : Int := match l.findIdx? p with | some k => k | none => -1
theorem idxP_at {α : Type} {p : α → Bool} {l : List α} (k : Nat) (hk : k < l.length) (h0 : ∀ j (h : j < k), p (l[j]'(by omega)) = false) (h : p l[k] = true) : idxP p l = k ∧ l.find? p = some l[k] := by
  have : l.findIdx? p = some k := by
    rw [List.findIdx?_eq_some_iff_getElem]
    exact ⟨hk, h, fun j hj => by rw [h0 j hj]; simp⟩
  refine ⟨by unfold idxP; rw [this], ?_⟩
  rw [List.find?_eq_some_iff_getElem]
  exact ⟨h, k, hk, rfl, fun j hj => by rw [h0 j hj]; rfl⟩
theorem idxP_no {α : Type} {p : α → Bool} {l : List α} (h0 : ∀ j (h : j < l.length), p l[j] = false) : idxP p l = -1 ∧ l.find? p = none := by
  have : l.findIdx? p = none := by
    rw [List.findIdx?_eq_none_iff]
    intro x hx
    obtain ⟨j, hj, rfl⟩ := List.getElem_of_mem hx
    exact h0 j hj
  refine ⟨by unfold idxP; rw [this], ?_⟩
  rw [List.find?_eq_none]
  intro x hx
  obtain ⟨j, hj, rfl⟩ := List.getElem_of_mem hx
  rw [h0 j hj]
  simp
theorem idxP_cases {α : Type} (p : α → Bool) (l : List α) : (idxP p l = -1 ∧ l.find? p = none ∧ ∀ j (h : j < l.length), p l[j] = false) ∨ ∃ k, ∃ hk : k < l.length, idxP p l = k ∧ l.find? p = some l[k] ∧ p l[k] = true ∧ ∀ j (h : j < k), p (l[j]'(by omega)) = false := by
  by_cases h : ∀ j (h : j < l.length), p l[j] = false
  · exact .inl ⟨(idxP_no h).1, (idxP_no h).2, h⟩
  · right
    cases hf : l.findIdx? p with
    | none =>
      rw [List.findIdx?_eq_none_iff] at hf
      exact absurd (fun j hj => hf _ (List.getElem_mem hj)) h
    | some k =>
      rw [List.findIdx?_eq_some_iff_getElem] at hf
      obtain ⟨hk, h1, h2⟩ := hf
      have h3 : ∀ j (h : j < k), p (l[j]'(by omega)) = false := fun j hj => by simpa using h2 j hj
      exact ⟨k, hk, (idxP_at k hk h3 h1).1, (idxP_at k hk h3 h1).2, h1, h3⟩
theorem any_find {α : Type} (p : α → Bool) (l : List α) : decide (0 ≤ idxP p l) = l.any p := by
  rcases idxP_cases p l with ⟨e, _, h⟩ | ⟨k, hk, e, _, h, _⟩
  · rw [e, Bool.eq_iff_iff]
    simp
    intro x hx
    obtain ⟨j, hj, rfl⟩ := List.getElem_of_mem hx
    exact h j hj
  · rw [e, Bool.eq_iff_iff]
    simp
    exact ⟨l[k], List.getElem_mem _, h⟩

theorem u8_of (x : Int) : x = x := rfl
theorem row_slice {w : World} {base n size : Nat} {T : TypeId} {v : Value} {xs : List Value} (h : w.ownsRow base T size v n xs) : ∃ A c, v = .slice A n c := by
  rcases h.2 with ⟨rfl, rfl⟩ | ⟨g, cap, cur, rfl, _⟩
  · exact ⟨none, 0, rfl⟩
  · exact ⟨_, cap, rfl⟩
/-- what a function value answers about one -/
def PredB {α : Type} (enc : α → List Value) (g : Nat) (lb : Array Value) (p : α → Bool) (w : World) : Prop := ∀ x W, Below w.heap.size w W → Calls Tryz.prog g (#[.agg (enc x).toArray] ++ lb) W fun e w' => e = .returned (.bool (p x)) ∧ Below W.heap.size W w'

set_option maxRecDepth 100000 in
set_option maxHeartbeats 4000000 in
theorem idxAff_any (g : Nat) (lb : Array Value) (eg : ∀ args w, (callFunc g args).run Tryz.prog w = .ok (.enter g args) w) (p : PAff → Bool) (v : Value) (l : List PAff) (w : World) (hv : SlE PAff.enc 2 w v l) (hp : PredB PAff.enc g lb p w) (hn : l.length ≤ 100000000) :
    Calls Tryz.prog 43 #[v, .func (.func g) #[] lb] w fun e w' => e = .returned (.int .i64 (idxP p l)) ∧ Below w.heap.size w w' := by
  obtain ⟨A, c, rfl, hc, hcell⟩ := hv
  go_enter Tryz.func43, Tryz.ntmps43
  go_wp2
  go_loopw [8] (fun i W => ∃ k : Nat, k ≤ l.length ∧ i = .int .i64 k ∧ Hid (∀ j (h : j < l.length), j < k → p l[j] = false) ∧ Below w.heap.size w W) (fun i _ => l.length - (intOf i).toNat)
  case atStart => exact ⟨0, Nat.zero_le _, rfl, (fun j h hj => absurd hj (Nat.not_lt_zero _) : ∀ j (h : j < l.length), j < 0 → p l[j] = false), Below.refl _ w⟩
  case round =>
    obtain ⟨k, hk, rfl, HC, hW⟩ := hrel
    by_cases hlt : k < l.length
    · rcases hcell with h0 | ⟨B, off, rfl, hB, hcell⟩
      · subst h0; cases hlt
      have hx := fun j hj => (hW.cell (p := ⟨B, off + k * 2 + j, none⟩) hB).trans (hcell k hlt j hj)
      have y0 : wr.cell? ⟨B, off + k * 2, none⟩ = some (.string l[k].jid) := hx 0 (by omega)
      have y1 : wr.cell? ⟨B, off + k * 2 + 1, none⟩ = some (.int .u8 l[k].role) := hx 1 (by omega)
      have HP : Hid (Calls Tryz.prog g (#[.agg #[.string l[k].jid, .int .u8 l[k].role]] ++ lb) wr fun e w' => e = .returned (.bool (p l[k])) ∧ Below wr.heap.size wr w') := hp l[k] wr hW
      cases hq : p l[k] with
      | true =>
        rw [hq] at HP
        have HR := Lib.hid (idxP_at k hlt (fun j hj => HC.out j (by omega) hj) hq).1
        clear hx hq hcell
        go_wp2_with fail
        go_at_fn g
        with_reducible refine HP.out.mono ?_
        rintro e w1 ⟨rfl, hB1⟩
        go_wp2_with fail
        go_returns
        exact ⟨by rw [HR.out]; rfl, hW.trans (hB1.mono hW.size)⟩
      | false =>
        rw [hq] at HP
        have HN : Hid (∀ j (h : j < l.length), j < k + 1 → p l[j] = false) := fun j h hj => by
          rcases Nat.lt_succ_iff_lt_or_eq.1 hj with hj | rfl
          · exact HC.out j h hj
          · exact hq
        clear hx hq hcell
        go_wp2_with fail
        go_at_fn g
        with_reducible refine HP.out.mono ?_
        rintro e w1 ⟨rfl, hB1⟩
        go_wp2_with fail
        go_roundw
        case rel => exact ⟨k + 1, by omega, by go_num, HN, hW.trans (hB1.mono hW.size)⟩
        case measure => simp [intOf]; omega
    · have hkl : k = l.length := by omega
      subst hkl
      have HR := Lib.hid (idxP_no (fun j hj => HC.out j hj hj)).1
      clear hcell
      go_wp2_with fail
      go_returns
      exact ⟨by rw [HR.out]; rfl, hW⟩

set_option maxRecDepth 100000 in
set_option maxHeartbeats 4000000 in
theorem idxSub_any (g : Nat) (lb : Array Value) (eg : ∀ args w, (callFunc g args).run Tryz.prog w = .ok (.enter g args) w) (p : PSub → Bool) (v : Value) (l : List PSub) (w : World) (hv : SlE PSub.enc 3 w v l) (hp : PredB PSub.enc g lb p w) (hn : l.length ≤ 100000000) :
    Calls Tryz.prog 41 #[v, .func (.func g) #[] lb] w fun e w' => e = .returned (.int .i64 (idxP p l)) ∧ Below w.heap.size w w' := by
  obtain ⟨A, c, rfl, hc, hcell⟩ := hv
  go_enter Tryz.func41, Tryz.ntmps41
  go_wp2
  go_loopw [8] (fun i W => ∃ k : Nat, k ≤ l.length ∧ i = .int .i64 k ∧ Hid (∀ j (h : j < l.length), j < k → p l[j] = false) ∧ Below w.heap.size w W) (fun i _ => l.length - (intOf i).toNat)
  case atStart => exact ⟨0, Nat.zero_le _, rfl, (fun j h hj => absurd hj (Nat.not_lt_zero _) : ∀ j (h : j < l.length), j < 0 → p l[j] = false), Below.refl _ w⟩
  case round =>
    obtain ⟨k, hk, rfl, HC, hW⟩ := hrel
    by_cases hlt : k < l.length
    · rcases hcell with h0 | ⟨B, off, rfl, hB, hcell⟩
      · subst h0; cases hlt
      have hx := fun j hj => (hW.cell (p := ⟨B, off + k * 3 + j, none⟩) hB).trans (hcell k hlt j hj)
      have y0 : wr.cell? ⟨B, off + k * 3, none⟩ = some (.string l[k].jid) := hx 0 (by omega)
      have y1 : wr.cell? ⟨B, off + k * 3 + 1, none⟩ = some (.bool l[k].pending) := hx 1 (by omega)
      have y2 : wr.cell? ⟨B, off + k * 3 + 2, none⟩ = some (.int .i64 l[k].depth) := hx 2 (by omega)
      have HP : Hid (Calls Tryz.prog g (#[.agg #[.string l[k].jid, .bool l[k].pending, .int .i64 l[k].depth]] ++ lb) wr fun e w' => e = .returned (.bool (p l[k])) ∧ Below wr.heap.size wr w') := hp l[k] wr hW
      cases hq : p l[k] with
      | true =>
        rw [hq] at HP
        have HR := Lib.hid (idxP_at k hlt (fun j hj => HC.out j (by omega) hj) hq).1
        clear hx hq hcell
        go_wp2_with fail
        go_at_fn g
        with_reducible refine HP.out.mono ?_
        rintro e w1 ⟨rfl, hB1⟩
        go_wp2_with fail
        go_returns
        exact ⟨by rw [HR.out]; rfl, hW.trans (hB1.mono hW.size)⟩
      | false =>
        rw [hq] at HP
        have HN : Hid (∀ j (h : j < l.length), j < k + 1 → p l[j] = false) := fun j h hj => by
          rcases Nat.lt_succ_iff_lt_or_eq.1 hj with hj | rfl
          · exact HC.out j h hj
          · exact hq
        clear hx hq hcell
        go_wp2_with fail
        go_at_fn g
        with_reducible refine HP.out.mono ?_
        rintro e w1 ⟨rfl, hB1⟩
        go_wp2_with fail
        go_roundw
        case rel => exact ⟨k + 1, by omega, by go_num, HN, hW.trans (hB1.mono hW.size)⟩
        case measure => simp [intOf]; omega
    · have hkl : k = l.length := by omega
      subst hkl
      have HR := Lib.hid (idxP_no (fun j hj => HC.out j hj hj)).1
      clear hcell
      go_wp2_with fail
      go_returns
      exact ⟨by rw [HR.out]; rfl, hW⟩

set_option maxRecDepth 100000 in
set_option maxHeartbeats 4000000 in
theorem conSub_any (g : Nat) (lb : Array Value) (eg : ∀ args w, (callFunc g args).run Tryz.prog w = .ok (.enter g args) w) (p : PSub → Bool) (v : Value) (l : List PSub) (w : World) (hv : SlE PSub.enc 3 w v l) (hp : PredB PSub.enc g lb p w) (hn : l.length ≤ 100000000) :
    Calls Tryz.prog 30 #[v, .func (.func g) #[] lb] w fun e w' => e = .returned (.bool (l.any p)) ∧ Below w.heap.size w w' := by
  have H := Lib.hid (idxSub_any g lb eg p v l w hv hp hn)
  have HA := Lib.hid (any_find p l)
  generalize idxP p l = r at H HA
  go_enter Tryz.func30, Tryz.ntmps30
  go_wp2_with fail
  with_reducible refine H.out.mono ?_
  rintro e w1 ⟨rfl, hB1⟩
  go_wp2_with fail
  go_returns
  exact ⟨by rw [← HA.out]; rfl, hB1⟩

theorem infoAff : (Tryz.prog.info? 49).map (fun i => (i.zero, i.size, i.bytes)) = some (some (.agg #[.string ⟨#[]⟩, .int .u8 0]), 2, 24) := by kernel_rfl
theorem PAff.enc_len (x : PAff) : x.enc.length = 2 := rfl
theorem PAff.one (l : List PAff) : ∀ u ∈ l.flatMap PAff.enc, u.oneCell' = true := by
  intro u hu
  obtain ⟨x, _, hx⟩ := List.mem_flatMap.1 hu
  simp only [PAff.enc, List.mem_cons, List.not_mem_nil, or_false] at hx
  rcases hx with rfl | rfl <;> rfl

set_option maxRecDepth 100000 in
set_option maxHeartbeats 4000000 in
theorem cloneAff_any (v : Value) (l : List PAff) (w : World) (hv : SlE PAff.enc 2 w v l) (hn : l.length ≤ 100000000) :
    Calls Tryz.prog 55 #[v] w fun e w' => ∃ v', e = .returned v' ∧ OwE PAff.enc 2 w' w.heap.size 49 v' l ∧ Below w.heap.size w w' := by
  obtain ⟨A, c, rfl, hc, hcell⟩ := hv
  have hq : ∀ (w : World) (a : Option Addr) (n c : Nat), (binOp .eql 23 (.slice a n c) (.slice none 0 0)).run Tryz.prog w = .ok (.bool a.isNone) w := fun w a n c => Lib.run_eql_slice_nil w _ _ a n c 0 0 Tryz.underlying23
  cases A with
  | none =>
    obtain rfl : l = [] := by
      rcases hcell with h | ⟨B, off, h, _⟩
      · exact h
      · cases h
    go_enter Tryz.func55, Tryz.ntmps55
    go_wp2_with fail
    go_returns
    exact ⟨_, rfl, World.ownsRow_nil _ _ _ _, Below.refl _ _⟩
  | some ad =>
    obtain ⟨i0, hi, hz0, hz1, hz2⟩ := info_parts infoAff
    have hlen : (l.flatMap PAff.enc).length = l.length * 2 := flat_len PAff.enc 2 PAff.enc_len l
    have hcells : ∀ j u, (l.flatMap PAff.enc)[j]? = some u → (w.alloc (.cells #[] 49)).cell? (ad.add j) = some u := fun j u hj => by
      rcases hcell with h | ⟨B, off, h, hB, hx⟩
      · subst h; simp at hj
      · cases h
        have hlt : j < l.length * 2 := by rw [← hlen]; exact (List.getElem?_eq_some_iff.1 hj).1
        have h1 : j / 2 < l.length := Nat.div_lt_of_lt_mul (by omega)
        have hjj : j / 2 * 2 + j % 2 = j := by omega
        have := flat_at PAff.enc 2 PAff.enc_len l (j / 2) h1 (j % 2) (by omega)
        rw [hjj, hj] at this
        have h2 := hx (j / 2) h1 (j % 2) (by omega)
        rw [← this] at h2
        have ha : (⟨B, off, none⟩ : Addr).add j = ⟨B, off + j / 2 * 2 + j % 2, none⟩ := by unfold Addr.add; split <;> simp_all <;> omega
        rw [ha, ← h2]
        exact World.cell?_of_block (w := w) (Below.heap_alloc w _ _ hB)
    have hmade := World.ownsRow_made (e := 49) (size := 2) (base := w.heap.size) w #[] 0 (Nat.le_refl _) (by decide) rfl
    have HH := Lib.hid (And.intro hcells hmade)
    clear hcells hmade hcell
    go_enter Tryz.func55, Tryz.ntmps55
    go_wp2_with (at_builtin; refine wpList_append_own _ rfl (.tmp 5) (.tmp 6) 23 rfl w.heap.size 49 i0 (.agg #[.string ⟨#[]⟩, .int .u8 0]) 2 24 Tryz.underlying23 hi hz0 hz1 hz2 rfl (by omega) (.slice (some ⟨w.heap.size, 0, none⟩) 0 0) 0 [] rfl HH.out.2 ad l.length c (l.flatMap PAff.enc) rfl hlen HH.out.1 (PAff.one l) (by simp only [maxLen]; omega) (by omega) ((Below.refl w.heap.size w).alloc (Nat.le_refl _) (.cells #[] 49)).size ?_; intro v1 w1 hown hg _; rw [Nat.zero_add] at hown; obtain ⟨q1, q2, rfl⟩ := row_slice hown)
    go_returns
    refine ⟨_, rfl, hown, ((Below.refl w.heap.size w).alloc (Nat.le_refl _) (.cells #[] 49)).grown hg ((Below.refl w.heap.size w).alloc (Nat.le_refl _) (.cells #[] 49)).size ?_⟩
    intro k hk
    obtain rfl : w.heap.size = k := by simpa [Value.ownBlock] using hk
    exact Nat.le_refl _

theorem infoSub : (Tryz.prog.info? 51).map (fun i => (i.zero, i.size, i.bytes)) = some (some (.agg #[.string ⟨#[]⟩, .bool false, .int .i64 0]), 3, 32) := by kernel_rfl
theorem PSub.enc_len (x : PSub) : x.enc.length = 3 := rfl
theorem PSub.one (l : List PSub) : ∀ u ∈ l.flatMap PSub.enc, u.oneCell' = true := by
  intro u hu
  obtain ⟨x, _, hx⟩ := List.mem_flatMap.1 hu
  simp only [PSub.enc, List.mem_cons, List.not_mem_nil, or_false] at hx
  rcases hx with rfl | rfl | rfl <;> rfl

set_option maxRecDepth 100000 in
set_option maxHeartbeats 4000000 in
theorem cloneSub_any (v : Value) (l : List PSub) (w : World) (hv : SlE PSub.enc 3 w v l) (hn : l.length ≤ 100000000) :
    Calls Tryz.prog 56 #[v] w fun e w' => ∃ v', e = .returned v' ∧ OwE PSub.enc 3 w' w.heap.size 51 v' l ∧ Below w.heap.size w w' := by
  obtain ⟨A, c, rfl, hc, hcell⟩ := hv
  have hq : ∀ (w : World) (a : Option Addr) (n c : Nat), (binOp .eql 24 (.slice a n c) (.slice none 0 0)).run Tryz.prog w = .ok (.bool a.isNone) w := fun w a n c => Lib.run_eql_slice_nil w _ _ a n c 0 0 Tryz.underlying24
  cases A with
  | none =>
    obtain rfl : l = [] := by
      rcases hcell with h | ⟨B, off, h, _⟩
      · exact h
      · cases h
    go_enter Tryz.func56, Tryz.ntmps56
    go_wp2_with fail
    go_returns
    exact ⟨_, rfl, World.ownsRow_nil _ _ _ _, Below.refl _ _⟩
  | some ad =>
    obtain ⟨i0, hi, hz0, hz1, hz2⟩ := info_parts infoSub
    have hlen : (l.flatMap PSub.enc).length = l.length * 3 := flat_len PSub.enc 3 PSub.enc_len l
    have hcells : ∀ j u, (l.flatMap PSub.enc)[j]? = some u → (w.alloc (.cells #[] 51)).cell? (ad.add j) = some u := fun j u hj => by
      rcases hcell with h | ⟨B, off, h, hB, hx⟩
      · subst h; simp at hj
      · cases h
        have hlt : j < l.length * 3 := by rw [← hlen]; exact (List.getElem?_eq_some_iff.1 hj).1
        have h1 : j / 3 < l.length := Nat.div_lt_of_lt_mul (by omega)
        have hjj : j / 3 * 3 + j % 3 = j := by omega
        have := flat_at PSub.enc 3 PSub.enc_len l (j / 3) h1 (j % 3) (by omega)
        rw [hjj, hj] at this
        have h2 := hx (j / 3) h1 (j % 3) (by omega)
        rw [← this] at h2
        have ha : (⟨B, off, none⟩ : Addr).add j = ⟨B, off + j / 3 * 3 + j % 3, none⟩ := by unfold Addr.add; split <;> simp_all <;> omega
        rw [ha, ← h2]
        exact World.cell?_of_block (w := w) (Below.heap_alloc w _ _ hB)
    have hmade := World.ownsRow_made (e := 51) (size := 3) (base := w.heap.size) w #[] 0 (Nat.le_refl _) (by decide) rfl
    have HH := Lib.hid (And.intro hcells hmade)
    clear hcells hmade hcell
    go_enter Tryz.func56, Tryz.ntmps56
    go_wp2_with (at_builtin; refine wpList_append_own _ rfl (.tmp 5) (.tmp 6) 24 rfl w.heap.size 51 i0 (.agg #[.string ⟨#[]⟩, .bool false, .int .i64 0]) 3 32 Tryz.underlying24 hi hz0 hz1 hz2 rfl (by omega) (.slice (some ⟨w.heap.size, 0, none⟩) 0 0) 0 [] rfl HH.out.2 ad l.length c (l.flatMap PSub.enc) rfl hlen HH.out.1 (PSub.one l) (by simp only [maxLen]; omega) (by omega) ((Below.refl w.heap.size w).alloc (Nat.le_refl _) (.cells #[] 51)).size ?_; intro v1 w1 hown hg _; rw [Nat.zero_add] at hown; obtain ⟨q1, q2, rfl⟩ := row_slice hown)
    go_returns
    refine ⟨_, rfl, hown, ((Below.refl w.heap.size w).alloc (Nat.le_refl _) (.cells #[] 51)).grown hg ((Below.refl w.heap.size w).alloc (Nat.le_refl _) (.cells #[] 51)).size ?_⟩
    intro k hk
    obtain rfl : w.heap.size = k := by simpa [Value.ownBlock] using hk
    exact Nat.le_refl _

theorem infoItem : (Tryz.prog.info? 53).map (fun i => (i.zero, i.size, i.bytes)) = some (some (.agg #[.string ⟨#[]⟩, .string ⟨#[]⟩, .string ⟨#[]⟩]), 3, 48) := by kernel_rfl
theorem PItem.enc_len (x : PItem) : x.enc.length = 3 := rfl
theorem PItem.one (l : List PItem) : ∀ u ∈ l.flatMap PItem.enc, u.oneCell' = true := by
  intro u hu
  obtain ⟨x, _, hx⟩ := List.mem_flatMap.1 hu
  simp only [PItem.enc, List.mem_cons, List.not_mem_nil, or_false] at hx
  rcases hx with rfl | rfl | rfl <;> rfl

set_option maxRecDepth 100000 in
set_option maxHeartbeats 4000000 in
theorem cloneItem_any (v : Value) (l : List PItem) (w : World) (hv : SlE PItem.enc 3 w v l) (hn : l.length ≤ 100000000) :
    Calls Tryz.prog 57 #[v] w fun e w' => ∃ v', e = .returned v' ∧ OwE PItem.enc 3 w' w.heap.size 53 v' l ∧ Below w.heap.size w w' := by
  obtain ⟨A, c, rfl, hc, hcell⟩ := hv
  have hq : ∀ (w : World) (a : Option Addr) (n c : Nat), (binOp .eql 25 (.slice a n c) (.slice none 0 0)).run Tryz.prog w = .ok (.bool a.isNone) w := fun w a n c => Lib.run_eql_slice_nil w _ _ a n c 0 0 Tryz.underlying25
  cases A with
  | none =>
    obtain rfl : l = [] := by
      rcases hcell with h | ⟨B, off, h, _⟩
      · exact h
      · cases h
    go_enter Tryz.func57, Tryz.ntmps57
    go_wp2_with fail
    go_returns
    exact ⟨_, rfl, World.ownsRow_nil _ _ _ _, Below.refl _ _⟩
  | some ad =>
    obtain ⟨i0, hi, hz0, hz1, hz2⟩ := info_parts infoItem
    have hlen : (l.flatMap PItem.enc).length = l.length * 3 := flat_len PItem.enc 3 PItem.enc_len l
    have hcells : ∀ j u, (l.flatMap PItem.enc)[j]? = some u → (w.alloc (.cells #[] 53)).cell? (ad.add j) = some u := fun j u hj => by
      rcases hcell with h | ⟨B, off, h, hB, hx⟩
      · subst h; simp at hj
      · cases h
        have hlt : j < l.length * 3 := by rw [← hlen]; exact (List.getElem?_eq_some_iff.1 hj).1
        have h1 : j / 3 < l.length := Nat.div_lt_of_lt_mul (by omega)
        have hjj : j / 3 * 3 + j % 3 = j := by omega
        have := flat_at PItem.enc 3 PItem.enc_len l (j / 3) h1 (j % 3) (by omega)
        rw [hjj, hj] at this
        have h2 := hx (j / 3) h1 (j % 3) (by omega)
        rw [← this] at h2
        have ha : (⟨B, off, none⟩ : Addr).add j = ⟨B, off + j / 3 * 3 + j % 3, none⟩ := by unfold Addr.add; split <;> simp_all <;> omega
        rw [ha, ← h2]
        exact World.cell?_of_block (w := w) (Below.heap_alloc w _ _ hB)
    have hmade := World.ownsRow_made (e := 53) (size := 3) (base := w.heap.size) w #[] 0 (Nat.le_refl _) (by decide) rfl
    have HH := Lib.hid (And.intro hcells hmade)
    clear hcells hmade hcell
    go_enter Tryz.func57, Tryz.ntmps57
    go_wp2_with (at_builtin; refine wpList_append_own _ rfl (.tmp 5) (.tmp 6) 25 rfl w.heap.size 53 i0 (.agg #[.string ⟨#[]⟩, .string ⟨#[]⟩, .string ⟨#[]⟩]) 3 48 Tryz.underlying25 hi hz0 hz1 hz2 rfl (by omega) (.slice (some ⟨w.heap.size, 0, none⟩) 0 0) 0 [] rfl HH.out.2 ad l.length c (l.flatMap PItem.enc) rfl hlen HH.out.1 (PItem.one l) (by simp only [maxLen]; omega) (by omega) ((Below.refl w.heap.size w).alloc (Nat.le_refl _) (.cells #[] 53)).size ?_; intro v1 w1 hown hg _; rw [Nat.zero_add] at hown; obtain ⟨q1, q2, rfl⟩ := row_slice hown)
    go_returns
    refine ⟨_, rfl, hown, ((Below.refl w.heap.size w).alloc (Nat.le_refl _) (.cells #[] 53)).grown hg ((Below.refl w.heap.size w).alloc (Nat.le_refl _) (.cells #[] 53)).size ?_⟩
    intro k hk
    obtain rfl : w.heap.size = k := by simpa [Value.ownBlock] using hk
    exact Nat.le_refl _
end Go.Proofs.YtpjaopcgoaannaaGreatDoor
