/- What the laws of package text ask, of lists of bytes: no program in it. -/
import Derived.Test.YtmfeojhphdmodaaDoorTx4
import Derived.Test.YtmfeojhphdmodaaDoorTx5
namespace Go.Proofs.YtmfeojhphdmodaaDoor
open Go.Lib

/-! entities -/
theorem esc_append (s t : List UInt8) : esc (s ++ t) = esc s ++ esc t := by simp [esc]
theorem esc_cons (c : UInt8) (l : List UInt8) : esc (c :: l) = escB c ++ esc l := by simp [esc]

theorem nameOf_char {c : UInt8} {nm : List UInt8} (h : nameOf c = some nm) : charOf nm = some c ∧ (59 : UInt8) ∉ nm := by
  unfold nameOf at h
  repeat' split at h
  all_goals first | (obtain rfl := Option.some.inj h; subst_vars; exact ⟨rfl, by decide⟩) | (simp at h; done)

theorem nameOf_none {c : UInt8} (h : nameOf c = none) : c ≠ 38 ∧ c ≠ 60 ∧ c ≠ 62 ∧ c ≠ 39 ∧ c ≠ 34 := by
  unfold nameOf at h
  repeat' split at h
  all_goals first | (simp at h; done) | exact ⟨‹_›, ‹_›, ‹_›, ‹_›, ‹_›⟩

theorem cutAt_hit (c : UInt8) : ∀ (nm l : List UInt8), c ∉ nm → cutAt c (nm ++ c :: l) = (nm, l, true)
  | [], l, _ => by simp [cutAt]
  | b :: nm, l, h => by
    have hb : ¬ b = c := fun e => h (by simp [e])
    simp [cutAt, hb, cutAt_hit c nm l (fun h2 => h (by simp [h2]))]

theorem unesc_amp (n : Nat) (nm l : List UInt8) (c : UInt8) (h1 : charOf nm = some c) (h2 : (59 : UInt8) ∉ nm) : unesc (n + 1) (38 :: (nm ++ 59 :: l)) = (unesc n l).map fun r => c :: r := by
  simp [unesc, cutAt, cutAt_hit 59 nm l h2, h1]

theorem unesc_plain (n : Nat) (b : UInt8) (l : List UInt8) (h1 : b ≠ 38) (h2 : b ≠ 60) : unesc (n + 1) (b :: l) = (unesc (n + 1) l).map fun r => b :: r := by
  have e : cutAt 38 (b :: l) = (b :: (cutAt 38 l).1, (cutAt 38 l).2.1, (cutAt 38 l).2.2) := by simp [cutAt, h1]
  have hm : (60 ∈ b :: (cutAt 38 l).1) ↔ 60 ∈ (cutAt 38 l).1 := by simp; intro h; exact absurd h.symm h2
  unfold unesc
  rw [e]
  simp only [hm]
  by_cases a : 60 ∈ (cutAt 38 l).1
  · simp [a]
  · rw [if_neg a, if_neg a]
    by_cases b : (cutAt 38 l).2.2 = false
    · simp [b]
    · rw [if_neg b, if_neg b]
      by_cases d : (cutAt 59 (cutAt 38 l).2.1).2.2 = false
      · simp [d]
      · rw [if_neg d, if_neg d]
        cases charOf (cutAt 59 (cutAt 38 l).2.1).1 with
        | none => rfl
        | some c => simp [Option.map_map, Function.comp_def]

theorem unesc_lt (n : Nat) (l : List UInt8) : unesc (n + 1) (60 :: l) = none := by simp [unesc, cutAt]
theorem unesc_nil (n : Nat) : unesc (n + 1) [] = some [] := by simp [unesc, cutAt]

theorem unesc_esc : ∀ (l : List UInt8) (n : Nat), (esc l).length < n → unesc n (esc l) = some l
  | [], n, h => by
    obtain ⟨m, rfl⟩ : ∃ m, n = m + 1 := ⟨n - 1, by simp [esc] at h; omega⟩
    exact unesc_nil m
  | c :: l, n, h => by
    obtain ⟨m, rfl⟩ : ∃ m, n = m + 1 := ⟨n - 1, by omega⟩
    rw [esc_cons] at h ⊢
    cases hn : nameOf c with
    | none =>
      have e : escB c = [c] := by unfold escB; rw [hn]
      obtain ⟨h1, h2, _⟩ := nameOf_none hn
      rw [e] at h ⊢
      simp only [List.singleton_append, List.length_cons] at h ⊢
      rw [unesc_plain m c _ h1 h2, unesc_esc l (m + 1) (by omega)]
      rfl
    | some nm =>
      have e : escB c = 38 :: (nm ++ [59]) := by unfold escB; rw [hn]
      obtain ⟨h1, h2⟩ := nameOf_char hn
      rw [e] at h ⊢
      simp only [List.cons_append, List.append_assoc, List.nil_append, List.length_cons, List.length_append] at h ⊢
      rw [unesc_amp m nm (esc l) c h1 h2, unesc_esc l m (by omega)]
      rfl

/-! base 64 -/
theorem dig_table : ∀ n, n < 64 → place (dig n) = n ∧ dig n ≠ 61 := by decide +kernel

theorem decR_dig (n : Nat) (hn : n < 64) (l : List UInt8) (bits many : Nat) (out : List UInt8) : decR (dig n :: l) bits many out =
    if 2 ≤ many then decR l (bits * 64 % 4294967296 + n) (many - 2) (out ++ [UInt8.ofNat ((bits * 64 % 4294967296 + n) / 2 ^ (many - 2))]) else decR l (bits * 64 % 4294967296 + n) (many + 6) out := by
  obtain ⟨h, _⟩ := dig_table n hn
  have h0 : ¬ ((n : Int) < 0) := by omega
  simp only [decR, h, if_neg h0, Int.toNat_natCast]

theorem u8_of_toNat (x : Nat) (c : UInt8) (h : x % 256 = c.toNat) : UInt8.ofNat x = c := by
  apply UInt8.toNat_inj.1
  simpa using h

theorem trim_digits (l : List UInt8) (m : List UInt8) (hl : ∀ c ∈ l, c ≠ 61) (hm : ∀ c ∈ m, c = 61) : trimRightB (l ++ m) 61 = l := by
  unfold trimRightB
  rw [List.reverse_append]
  have h1 : ∀ (a b : List UInt8), (∀ c ∈ a, c = 61) → (∀ c ∈ b, c ≠ 61) → (a ++ b).dropWhile (· == 61) = b := by
    intro a
    induction a with
    | nil =>
      intro b _ hb
      cases b with
      | nil => rfl
      | cons x b => rw [List.nil_append, List.dropWhile_cons_of_neg]; simpa using hb x (by simp)
    | cons x a ih =>
      intro b ha hb
      rw [List.cons_append, List.dropWhile_cons_of_pos (by simpa using ha x (by simp))]
      exact ih b (fun c hc => ha c (by simp [hc])) hb
  rw [h1 m.reverse l.reverse (fun c hc => hm c (by simpa using hc)) (fun c hc => hl c (by simpa using hc)), List.reverse_reverse]

/-- The digits of b64, without what fills up. -/
def digs : List UInt8 → List UInt8
  | [] => []
  | [a] => [dig (a.toNat * 65536 / 262144 % 64), dig (a.toNat * 65536 / 4096 % 64)]
  | [a, b] => [dig ((a.toNat * 65536 + b.toNat * 256) / 262144 % 64), dig ((a.toNat * 65536 + b.toNat * 256) / 4096 % 64), dig ((a.toNat * 65536 + b.toNat * 256) / 64 % 64)]
  | a :: b :: c :: l => four 3 (a.toNat * 65536 + b.toNat * 256 + c.toNat) ++ digs l
def fills : List UInt8 → List UInt8
  | [] => []
  | [_] => [61, 61]
  | [_, _] => [61]
  | _ :: _ :: _ :: l => fills l

theorem b64_parts : ∀ l : List UInt8, b64 l = digs l ++ fills l
  | [] => rfl
  | [a] => by simp [b64, digs, fills, four]
  | [a, b] => by simp [b64, digs, fills, four]
  | a :: b :: c :: l => by simp [b64, digs, fills, b64_parts l]

theorem digs_ne : ∀ (l : List UInt8), ∀ c ∈ digs l, c ≠ 61
  | [] => by simp [digs]
  | [a] => by
    intro c hc
    simp only [digs, List.mem_cons, List.not_mem_nil, or_false] at hc
    rcases hc with rfl | rfl <;> exact (dig_table _ (by omega)).2
  | [a, b] => by
    intro c hc
    simp only [digs, List.mem_cons, List.not_mem_nil, or_false] at hc
    rcases hc with rfl | rfl | rfl <;> exact (dig_table _ (by omega)).2
  | a :: b :: c :: l => by
    intro x hx
    simp only [digs, List.mem_append] at hx
    rcases hx with hx | hx
    · simp only [four, List.mem_cons, List.not_mem_nil, or_false, show ¬ (3 < 2) by omega, show ¬ (3 < 3) by omega, if_false] at hx
      rcases hx with rfl | rfl | rfl | rfl <;> exact (dig_table _ (by omega)).2
    · exact digs_ne l x hx

theorem fills_eq : ∀ (l : List UInt8), ∀ c ∈ fills l, c = 61
  | [] => by simp [fills]
  | [a] => by simp [fills]
  | [a, b] => by simp [fills]
  | a :: b :: c :: l => by simp only [fills]; exact fills_eq l

theorem decR_digs : ∀ (l : List UInt8) (bits : Nat) (out : List UInt8), decR (digs l) bits 0 out = some (out ++ l)
  | [], bits, out => by simp [digs, decR]
  | [a], bits, out => by
    have ha := a.toNat_lt
    simp only [digs]
    rw [decR_dig _ (by omega), if_neg (by omega), decR_dig _ (by omega), if_pos (by omega), u8_of_toNat _ a (by simp only [Nat.reducePow, Nat.reduceSub, Nat.reduceAdd]; omega)]
    rfl
  | [a, b], bits, out => by
    have ha := a.toNat_lt
    have hb := b.toNat_lt
    simp only [digs]
    rw [decR_dig _ (by omega), if_neg (by omega), decR_dig _ (by omega), if_pos (by omega), u8_of_toNat _ a (by simp only [Nat.reducePow, Nat.reduceSub, Nat.reduceAdd]; omega),
      decR_dig _ (by omega), if_pos (by omega), u8_of_toNat _ b (by simp only [Nat.reducePow, Nat.reduceSub, Nat.reduceAdd]; omega)]
    simp only [decR, List.append_assoc, List.cons_append, List.nil_append]
  | a :: b :: c :: l, bits, out => by
    have ha := a.toNat_lt
    have hb := b.toNat_lt
    have hc := c.toNat_lt
    simp only [digs, four, show ¬ (3 < 2) by omega, show ¬ (3 < 3) by omega, if_false, List.cons_append, List.nil_append]
    rw [decR_dig _ (by omega), if_neg (by omega), decR_dig _ (by omega), if_pos (by omega), u8_of_toNat _ a (by simp only [Nat.reducePow, Nat.reduceSub, Nat.reduceAdd]; omega),
      decR_dig _ (by omega), if_pos (by omega), u8_of_toNat _ b (by simp only [Nat.reducePow, Nat.reduceSub, Nat.reduceAdd]; omega),
      decR_dig _ (by omega), if_pos (by omega), u8_of_toNat _ c (by simp only [Nat.reducePow, Nat.reduceSub, Nat.reduceAdd]; omega)]
    have h := fun b' => decR_digs l b' (out ++ [a] ++ [b] ++ [c])
    simp only [Nat.reduceSub, Nat.reduceAdd]
    rw [h]
    simp only [List.append_assoc, List.cons_append, List.nil_append]

theorem unb_b64 (l : List UInt8) : unb (b64 l) = some l := by
  unfold unb
  rw [b64_parts, trim_digits _ _ (digs_ne l) (fills_eq l)]
  rw [decR_digs]
  exact if_pos (b64_parts l)

theorem unb_some {l x : List UInt8} (h : unb l = some x) : b64 x = l := by
  unfold unb at h
  split at h
  · cases h
  · split at h
    · obtain rfl := Option.some.inj h
      assumption
    · cases h
end Go.Proofs.YtmfeojhphdmodaaDoor
