/- jid.join, jid.Right, jid.Bare: what they answer, for every address whose parts are short. -/
import Derived.Test.YtpjaopcgoaannaaGreatDoorJ1
namespace Go.Proofs.YtpjaopcgoaannaaGreatDoor
open Go.RowKit
open Hb

theorem bthen {B : Nat} {w w1 w2 : World} (h : Below B w w1) (hB : B ≤ w.heap.size) (k : Below w1.heap.size w1 w2) : Below B w w2 :=
  h.trans (k.mono (Nat.le_trans hB h.size))
theorem balloc (w : World) (o : Obj) : Below w.heap.size w (w.alloc o) := (Below.refl _ _).alloc (Nat.le_refl _) _
theorem empty_of {s : ByteArray} (h : s.size = 0) : s = ⟨#[]⟩ := by
  have hn : s.data.toList = [] := List.eq_nil_of_length_eq_zero (by rw [← Lib.size_eq]; exact h)
  exact congrArg (fun l : List UInt8 => ByteArray.mk l.toArray) hn
theorem nonempty_of {s : ByteArray} (h : s.size ≠ 0) : s.toList.isEmpty = false := by
  rw [ByteArray.toList_eq]
  cases hl : s.data.toList with
  | nil => exact absurd (by rw [Lib.size_eq, hl]; rfl) h
  | cons _ _ => rfl

def jidV (l d r : ByteArray) : Value := .agg #[.string l, .string d, .string r]
def joinB (l d r : ByteArray) : ByteArray :=
  if r.size = 0 then (if l.size = 0 then d else l ++ ⟨#[64]⟩ ++ d) else (if l.size = 0 then d else l ++ ⟨#[64]⟩ ++ d) ++ ⟨#[47]⟩ ++ r
theorem joinB_size (l d r : ByteArray) : (joinB l d r).size = d.size + (if l.size = 0 then 0 else l.size + 1) + (if r.size = 0 then 0 else r.size + 1) := by
  have h1 : (ByteArray.mk #[64]).size = 1 := rfl
  have h2 : (ByteArray.mk #[47]).size = 1 := rfl
  unfold joinB
  by_cases a : r.size = 0 <;> by_cases b : l.size = 0 <;> simp [a, b, ByteArray.size_append, h1, h2, -ByteArray.size_data] <;> omega

set_option maxHeartbeats 1000000 in
theorem join_any (l d r : ByteArray) (w : World) (hl : l.size ≤ 64) (hd : d.size ≤ 64) (hr : r.size ≤ 64) :
    Calls Tryz.prog 75 #[.agg #[.string l, .string d, .string r]] w fun e w' => e = .returned (.string (joinB l d r)) ∧ Below w.heap.size w w' := by
  have h1 : (ByteArray.mk #[64]).size = 1 := rfl
  have h2 : (ByteArray.mk #[47]).size = 1 := rfl
  have s1 : (l ++ ⟨#[64]⟩).size ≤ 65 := by rw [ByteArray.size_append]; omega
  have s2 : (l ++ ⟨#[64]⟩ ++ d).size ≤ 130 := by rw [ByteArray.size_append, ByteArray.size_append]; omega
  have s3 : (l ++ ⟨#[64]⟩ ++ d ++ ⟨#[47]⟩).size ≤ 140 := by rw [ByteArray.size_append, ByteArray.size_append, ByteArray.size_append]; omega
  have s4 : (d ++ ⟨#[47]⟩).size ≤ 140 := by rw [ByteArray.size_append]; omega
  clear h1 h2
  by_cases e1 : l.size = 0
  · by_cases e2 : r.size = 0
    · have HF : Hid (joinB l d r = d) := by show _ = _; unfold joinB; rw [if_pos e2, if_pos e1]
      obtain rfl := empty_of e1
      obtain rfl := empty_of e2
      clear e1 e2
      go_enter Tryz.func75, Tryz.ntmps75
      go_wp2_with fail
      go_ret
      exact ⟨by rw [HF.out]; rfl, balloc _ _⟩
    · have HF : Hid (joinB l d r = d ++ ⟨#[47]⟩ ++ r) := by show _ = _; unfold joinB; rw [if_neg e2, if_pos e1]
      obtain rfl := empty_of e1
      have n2 := nonempty_of e2
      clear e1 e2
      go_enter Tryz.func75, Tryz.ntmps75
      go_wp2_with fail
      go_ret
      exact ⟨by rw [HF.out]; rfl, balloc _ _⟩
  · have n1 := nonempty_of e1
    by_cases e2 : r.size = 0
    · have HF : Hid (joinB l d r = l ++ ⟨#[64]⟩ ++ d) := by show _ = _; unfold joinB; rw [if_pos e2, if_neg e1]
      obtain rfl := empty_of e2
      clear e1 e2
      go_enter Tryz.func75, Tryz.ntmps75
      go_wp2_with fail
      go_ret
      exact ⟨by rw [HF.out]; rfl, balloc _ _⟩
    · have HF : Hid (joinB l d r = l ++ ⟨#[64]⟩ ++ d ++ ⟨#[47]⟩ ++ r) := by show _ = _; unfold joinB; rw [if_neg e2, if_neg e1]
      have n2 := nonempty_of e2
      clear e1 e2
      go_enter Tryz.func75, Tryz.ntmps75
      go_wp2_with fail
      go_ret
      exact ⟨by rw [HF.out]; rfl, balloc _ _⟩

def partB (s : ByteArray) : Bool := isPart s.data.toList
def jidRight (l d r : ByteArray) : Bool := partB d && (decide (l.size = 0) || partB l) && (decide (r.size = 0) || partB r) && decide ((joinB l d r).size ≤ 64)
theorem part_size {s : ByteArray} (h : partB s = true) : s.size ≤ 64 := by
  unfold partB isPart at h
  rw [Bool.and_eq_true, decide_eq_true_eq, ← Lib.size_eq] at h
  exact h.2.2

set_option maxHeartbeats 2000000 in
theorem jidRight_any (l d r : ByteArray) (w : World) (hl : l.size ≤ 9223372036854775806) (hd : d.size ≤ 9223372036854775806) (hr : r.size ≤ 9223372036854775806) :
    Calls Tryz.prog 64 #[.agg #[.string l, .string d, .string r]] w fun e w' => e = .returned (.bool (jidRight l d r)) ∧ Below w.heap.size w w' := by
  have c1 := fun W => part_any l W hl
  have c2 := fun W => part_any d W hd
  have c3 := fun W => part_any r W hr
  change ∀ W, Calls _ _ _ W (fun e w' => e = .returned (.bool (partB l)) ∧ _) at c1
  change ∀ W, Calls _ _ _ W (fun e w' => e = .returned (.bool (partB d)) ∧ _) at c2
  change ∀ W, Calls _ _ _ W (fun e w' => e = .returned (.bool (partB r)) ∧ _) at c3
  have z1 := @part_size l
  have z2 := @part_size d
  have z3 := @part_size r
  by_cases p2 : partB d = true
  · rw [p2] at c2
    have C2 := Lib.hid c2
    clear c2
    by_cases e1 : l.size = 0 ∨ partB l = true
    · by_cases e3 : r.size = 0 ∨ partB r = true
      · have cj := fun W => join_any l d r W (by rcases e1 with h | h; omega; exact z1 h) (z2 p2) (by rcases e3 with h | h; omega; exact z3 h)
        have HF : Hid (jidRight l d r = decide ((joinB l d r).size ≤ 64)) := by
          show _ = _
          unfold jidRight
          rw [p2]
          rcases e1 with h | h <;> rcases e3 with k | k <;> simp [h, k]
        generalize joinB l d r = j at cj HF
        have CJ := Lib.hid cj
        clear cj z1 z2 z3 p2
        have hdd : ∀ (b : Bool), decide ((j.size : Int) ≤ 64) = b → decide (j.size ≤ 64) = b := by
          intro b h; rw [← h]; exact decide_eq_decide.2 (by omega)
        rcases Nat.eq_zero_or_pos l.size with h1 | h1 <;> rcases Nat.eq_zero_or_pos r.size with h3 | h3
        · obtain rfl := empty_of h1
          obtain rfl := empty_of h3
          clear c1 c3 e1 e3 h1 h3
          go_enter Tryz.func64, Tryz.ntmps64
          go_wp2_with fail
          refine (C2.out _).mono ?_
          rintro e w1 ⟨rfl, b⟩
          obtain rfl := b.symm
          go_wp2_with fail
          refine (CJ.out _).mono ?_
          rintro e w1 ⟨rfl, b⟩
          go_wp2_with fail
          go_ret
          exact ⟨by rw [HF.out, hdd _ rfl]; rfl, bthen (balloc _ _) (Nat.le_refl _) b⟩
        · obtain rfl := empty_of h1
          have n3 := nonempty_of (s := r) (by omega)
          rw [e3.resolve_left (by omega)] at c3
          have C3 := Lib.hid c3
          clear c1 c3 e1 e3 h1 h3
          go_enter Tryz.func64, Tryz.ntmps64
          go_wp2_with fail
          refine (C2.out _).mono ?_
          rintro e w1 ⟨rfl, b⟩
          obtain rfl := b.symm
          go_wp2_with fail
          refine (C3.out _).mono ?_
          rintro e w1 ⟨rfl, b⟩
          obtain rfl := b.symm
          go_wp2_with fail
          refine (CJ.out _).mono ?_
          rintro e w1 ⟨rfl, b⟩
          go_wp2_with fail
          go_ret
          exact ⟨by rw [HF.out, hdd _ rfl]; rfl, bthen (balloc _ _) (Nat.le_refl _) b⟩
        · obtain rfl := empty_of h3
          have n1 := nonempty_of (s := l) (by omega)
          rw [e1.resolve_left (by omega)] at c1
          have C1 := Lib.hid c1
          clear c1 c3 e1 e3 h1 h3
          go_enter Tryz.func64, Tryz.ntmps64
          go_wp2_with fail
          refine (C2.out _).mono ?_
          rintro e w1 ⟨rfl, b⟩
          obtain rfl := b.symm
          go_wp2_with fail
          refine (C1.out _).mono ?_
          rintro e w1 ⟨rfl, b⟩
          obtain rfl := b.symm
          go_wp2_with fail
          refine (CJ.out _).mono ?_
          rintro e w1 ⟨rfl, b⟩
          go_wp2_with fail
          go_ret
          exact ⟨by rw [HF.out, hdd _ rfl]; rfl, bthen (balloc _ _) (Nat.le_refl _) b⟩
        · have n1 := nonempty_of (s := l) (by omega)
          have n3 := nonempty_of (s := r) (by omega)
          rw [e1.resolve_left (by omega)] at c1
          rw [e3.resolve_left (by omega)] at c3
          have C1 := Lib.hid c1
          have C3 := Lib.hid c3
          clear c1 c3 e1 e3 h1 h3
          go_enter Tryz.func64, Tryz.ntmps64
          go_wp2_with fail
          refine (C2.out _).mono ?_
          rintro e w1 ⟨rfl, b⟩
          obtain rfl := b.symm
          go_wp2_with fail
          refine (C1.out _).mono ?_
          rintro e w1 ⟨rfl, b⟩
          obtain rfl := b.symm
          go_wp2_with fail
          refine (C3.out _).mono ?_
          rintro e w1 ⟨rfl, b⟩
          obtain rfl := b.symm
          go_wp2_with fail
          refine (CJ.out _).mono ?_
          rintro e w1 ⟨rfl, b⟩
          go_wp2_with fail
          go_ret
          exact ⟨by rw [HF.out, hdd _ rfl]; rfl, bthen (balloc _ _) (Nat.le_refl _) b⟩
      · have h3 : r.size ≠ 0 := fun h => e3 (.inl h)
        have p3 : partB r = false := by cases h : partB r; rfl; exact absurd (.inr h) e3
        have HF : Hid (jidRight l d r = false) := by show _ = _; unfold jidRight; rw [p3]; simp [h3]
        have n3 := nonempty_of h3
        rw [p3] at c3
        have C3 := Lib.hid c3
        clear c3 z1 z2 z3 p2 e3 p3 h3
        rcases Nat.eq_zero_or_pos l.size with h1 | h1
        · obtain rfl := empty_of h1
          clear c1 e1 h1
          go_enter Tryz.func64, Tryz.ntmps64
          go_wp2_with fail
          refine (C2.out _).mono ?_
          rintro e w1 ⟨rfl, b⟩
          obtain rfl := b.symm
          go_wp2_with fail
          refine (C3.out _).mono ?_
          rintro e w1 ⟨rfl, b⟩
          obtain rfl := b.symm
          go_wp2_with fail
          go_ret
          exact ⟨by rw [HF.out]; rfl, balloc _ _⟩
        · have n1 := nonempty_of (s := l) (by omega)
          rw [e1.resolve_left (by omega)] at c1
          have C1 := Lib.hid c1
          clear c1 e1 h1
          go_enter Tryz.func64, Tryz.ntmps64
          go_wp2_with fail
          refine (C2.out _).mono ?_
          rintro e w1 ⟨rfl, b⟩
          obtain rfl := b.symm
          go_wp2_with fail
          refine (C1.out _).mono ?_
          rintro e w1 ⟨rfl, b⟩
          obtain rfl := b.symm
          go_wp2_with fail
          refine (C3.out _).mono ?_
          rintro e w1 ⟨rfl, b⟩
          obtain rfl := b.symm
          go_wp2_with fail
          go_ret
          exact ⟨by rw [HF.out]; rfl, balloc _ _⟩
    · have h1 : l.size ≠ 0 := fun h => e1 (.inl h)
      have p1 : partB l = false := by cases h : partB l; rfl; exact absurd (.inr h) e1
      have HF : Hid (jidRight l d r = false) := by show _ = _; unfold jidRight; rw [p1]; simp [h1]
      have n1 := nonempty_of h1
      rw [p1] at c1
      have C1 := Lib.hid c1
      clear c1 c3 z1 z2 z3 p2 e1 p1 h1
      go_enter Tryz.func64, Tryz.ntmps64
      go_wp2_with fail
      refine (C2.out _).mono ?_
      rintro e w1 ⟨rfl, b⟩
      obtain rfl := b.symm
      go_wp2_with fail
      refine (C1.out _).mono ?_
      rintro e w1 ⟨rfl, b⟩
      obtain rfl := b.symm
      go_wp2_with fail
      go_ret
      exact ⟨by rw [HF.out]; rfl, balloc _ _⟩
  · have p2' : partB d = false := by cases h : partB d; rfl; exact absurd h p2
    have HF : Hid (jidRight l d r = false) := by show _ = _; unfold jidRight; rw [p2']; rfl
    rw [p2'] at c2
    have C2 := Lib.hid c2
    clear c1 c2 c3 z1 z2 z3 p2 p2'
    go_enter Tryz.func64, Tryz.ntmps64
    go_wp2_with fail
    refine (C2.out _).mono ?_
    rintro e w1 ⟨rfl, b⟩
    obtain rfl := b.symm
    go_wp2_with fail
    go_ret
    exact ⟨by rw [HF.out]; rfl, balloc _ _⟩

theorem bare_any (l d r : ByteArray) (w : World) :
    Calls Tryz.prog 49 #[.agg #[.string l, .string d, .string r]] w fun e w' => e = .returned (.agg #[.string l, .string d, .string ⟨#[]⟩]) ∧ Below w.heap.size w w' := by
  go_enter Tryz.func49, Tryz.ntmps49
  go_wp2_with fail
  refine bodyPost_ret (v := .agg #[.string l, .string d, .string ⟨#[]⟩]) (by simp [results, Tryz.results49, go_sem]) rfl ?_
  exact ⟨rfl, (balloc _ _).alloc (by simp) _⟩
end Go.Proofs.YtpjaopcgoaannaaGreatDoor
