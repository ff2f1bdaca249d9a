/- A node's text and what a text says, as plain functions: each is the other's inverse. No program in it. -/
import Derived.Test.YtpjaopcgoaannaaGreatDoorN5
import Derived.Lib.ItoaNum
namespace Go.Proofs.YtpjaopcgoaannaaGreatDoor

/-- the bytes of a text -/
abbrev bl (s : ByteArray) : List UInt8 := s.data.toList
/-- a text of bytes -/
abbrev bs (l : List UInt8) : ByteArray := ⟨l.toArray⟩
theorem bs_bl (s : ByteArray) : bs (bl s) = s := by cases s; rfl
theorem bl_bs (l : List UInt8) : bl (bs l) = l := rfl

/-- the digits of a number of at most three -/
def dig (n : Nat) : List UInt8 :=
  if n < 10 then [UInt8.ofNat (48 + n)] else if n < 100 then [UInt8.ofNat (48 + n / 10), UInt8.ofNat (48 + n % 10)] else [UInt8.ofNat (48 + n / 100), UInt8.ofNat (48 + n / 10 % 10), UInt8.ofNat (48 + n % 10)]
theorem dig_dec (n : Nat) (h : n < 1000) : Go.Lib.decDigits n = dig n := by
  unfold dig
  rw [Go.Lib.decDigits]
  split
  · rfl
  · rw [Go.Lib.decDigits]
    split
    · rw [if_pos (by omega)]; rfl
    · rw [Go.Lib.decDigits, dif_pos (by omega), if_neg (by omega), show n / 10 / 10 = n / 100 by omega]
      rfl
def isDig (b : UInt8) : Bool := decide (48 ≤ b.toNat) && decide (b.toNat ≤ 57)
def val3 : List UInt8 → Nat
  | [a] => a.toNat - 48
  | [a, b] => (a.toNat - 48) * 10 + (b.toNat - 48)
  | [a, b, c] => (a.toNat - 48) * 100 + (b.toNat - 48) * 10 + (c.toNat - 48)
  | _ => 0
/-- what small takes -/
def smallOk (s : List UInt8) : Bool := !s.isEmpty && decide (s.length ≤ 3) && s.all isDig && (s == [48] || s.head? != some 48)
def smallR (s : List UInt8) : Option Nat := if smallOk s then some (val3 s) else none

theorem small_dig (n : Nat) (h : n < 1000) : smallR (dig n) = some n := by
  have h1 : ∀ k : Fin 1000, smallR (dig k.val) = some k.val := by decide +kernel
  exact h1 ⟨n, h⟩
theorem dig_len (n : Nat) : (dig n).length ≤ 3 := by
  unfold dig
  split
  · exact (by decide : 1 ≤ 3)
  · split <;> simp
theorem dig_of {b : UInt8} (h : isDig b = true) : ∃ k, k < 10 ∧ b = UInt8.ofNat (48 + k) := by
  unfold isDig at h
  simp only [Bool.and_eq_true, decide_eq_true_eq] at h
  refine ⟨b.toNat - 48, by omega, ?_⟩
  apply UInt8.toNat.inj
  rw [UInt8.toNat_ofNat_of_lt' (by show _ < 256; omega)]
  omega
theorem dig_small {s : List UInt8} {n : Nat} (h : smallR s = some n) : s = dig n ∧ n < 1000 := by
  unfold smallR at h
  split at h
  rotate_left
  · cases h
  rename_i hok
  cases h
  unfold smallOk at hok
  simp only [Bool.and_eq_true, Bool.not_eq_true', decide_eq_true_eq] at hok
  obtain ⟨⟨⟨h1, h2⟩, h3⟩, h4⟩ := hok
  match s, h1, h2, h3, h4 with
  | [a], _, _, h3, _ =>
    simp only [List.all_cons, List.all_nil, Bool.and_true] at h3
    obtain ⟨k, hk, rfl⟩ := dig_of h3
    have : ∀ k : Fin 10, [UInt8.ofNat (48 + k.val)] = dig (val3 [UInt8.ofNat (48 + k.val)]) ∧ val3 [UInt8.ofNat (48 + k.val)] < 1000 := by decide
    exact this ⟨k, hk⟩
  | [a, b], _, _, h3, h4 =>
    simp only [List.all_cons, List.all_nil, Bool.and_true, Bool.and_eq_true] at h3
    obtain ⟨k, hk, rfl⟩ := dig_of h3.1
    obtain ⟨j, hj, rfl⟩ := dig_of h3.2
    have : ∀ k j : Fin 10, ([UInt8.ofNat (48 + k.val), UInt8.ofNat (48 + j.val)] == [48] || [UInt8.ofNat (48 + k.val), UInt8.ofNat (48 + j.val)].head? != some 48) = true → [UInt8.ofNat (48 + k.val), UInt8.ofNat (48 + j.val)] = dig (val3 [UInt8.ofNat (48 + k.val), UInt8.ofNat (48 + j.val)]) ∧ val3 [UInt8.ofNat (48 + k.val), UInt8.ofNat (48 + j.val)] < 1000 := by decide +kernel
    exact this ⟨k, hk⟩ ⟨j, hj⟩ h4
  | [a, b, c], _, _, h3, h4 =>
    simp only [List.all_cons, List.all_nil, Bool.and_true, Bool.and_eq_true] at h3
    obtain ⟨k, hk, rfl⟩ := dig_of h3.1
    obtain ⟨j, hj, rfl⟩ := dig_of h3.2.1
    obtain ⟨i, hi, rfl⟩ := dig_of h3.2.2
    have : ∀ k j i : Fin 10, ([UInt8.ofNat (48 + k.val), UInt8.ofNat (48 + j.val), UInt8.ofNat (48 + i.val)] == [48] || [UInt8.ofNat (48 + k.val), UInt8.ofNat (48 + j.val), UInt8.ofNat (48 + i.val)].head? != some 48) = true → [UInt8.ofNat (48 + k.val), UInt8.ofNat (48 + j.val), UInt8.ofNat (48 + i.val)] = dig (val3 [UInt8.ofNat (48 + k.val), UInt8.ofNat (48 + j.val), UInt8.ofNat (48 + i.val)]) ∧ val3 [UInt8.ofNat (48 + k.val), UInt8.ofNat (48 + j.val), UInt8.ofNat (48 + i.val)] < 1000 := by decide +kernel
    exact this ⟨k, hk⟩ ⟨j, hj⟩ ⟨i, hi⟩ h4
theorem dig_nocolon (n : Nat) (h : n < 1000) : (58 : UInt8) ∉ dig n := by
  have h1 : ∀ k : Fin 1000, (dig k.val).all (fun b => b != 58) = true := by decide +kernel
  have := List.all_eq_true.1 (h1 ⟨n, h⟩)
  intro hm
  have := this _ hm
  simp at this

/-- a word -/
def wordL (s : List UInt8) : List UInt8 := dig s.length ++ 58 :: s
def numL (n : Nat) : List UInt8 := wordL (dig n)
/-- a text cut at its first colon -/
def cutC : List UInt8 → Option (List UInt8 × List UInt8)
  | [] => none
  | b :: r => if b == 58 then some ([], r) else (cutC r).map fun x => (b :: x.1, x.2)
theorem cutC_app : ∀ (h t : List UInt8), (58 : UInt8) ∉ h → cutC (h ++ 58 :: t) = some (h, t)
  | [], t, _ => rfl
  | b :: h, t, hn => by
    have hb : (b == 58) = false := by
      rw [beq_eq_false_iff_ne]
      intro e
      exact hn (by rw [e]; exact .head _)
    rw [List.cons_append, cutC, hb, cutC_app h t (fun hm => hn (.tail _ hm))]
    rfl
theorem cutC_some : ∀ {l h t : List UInt8}, cutC l = some (h, t) → l = h ++ 58 :: t
  | [], _, _, e => by cases e
  | b :: r, h, t, e => by
    rw [cutC] at e
    split at e
    · rename_i hb
      rw [beq_iff_eq] at hb
      cases e
      rw [hb]; rfl
    · cases hc : cutC r with
      | none => rw [hc] at e; cases e
      | some x =>
        rw [hc] at e
        cases e
        rw [cutC_some (show cutC r = some (x.1, x.2) from hc)]
        rfl
def wordR (r : List UInt8) : Option (List UInt8 × List UInt8) :=
  match cutC r with
  | none => none
  | some (h, t) => match smallR h with
    | none => none
    | some n => if n ≤ t.length then some (t.take n, t.drop n) else none
theorem wordR_word (s t : List UInt8) (h : s.length < 1000) : wordR (wordL s ++ t) = some (s, t) := by
  unfold wordR wordL
  rw [List.append_assoc, List.cons_append, cutC_app _ _ (dig_nocolon _ h)]
  simp only [small_dig _ h]
  rw [if_pos (by rw [List.length_append]; omega), List.take_left' rfl, List.drop_left' rfl]
theorem word_wordR {r s t : List UInt8} (h : wordR r = some (s, t)) : r = wordL s ++ t ∧ s.length < 1000 := by
  unfold wordR at h
  split at h
  · cases h
  rename_i hd tl hc
  split at h
  · cases h
  rename_i n hn
  split at h
  rotate_left
  · cases h
  rename_i hle
  cases h
  obtain ⟨e, hn2⟩ := dig_small hn
  have hl : (tl.take n).length = n := by rw [List.length_take]; omega
  refine ⟨?_, by rw [hl]; exact hn2⟩
  rw [cutC_some hc]
  unfold wordL
  rw [hl, e, List.append_assoc, List.cons_append, List.take_append_drop]
def numR (most : Nat) (r : List UInt8) : Option (Nat × List UInt8) :=
  match wordR r with
  | none => none
  | some (s, t) => match smallR s with
    | none => none
    | some n => if n ≤ most then some (n, t) else none
theorem numR_num (most n : Nat) (t : List UInt8) (h : n ≤ most) (hm : n < 1000) : numR most (numL n ++ t) = some (n, t) := by
  unfold numR numL
  rw [wordR_word _ _ (by have := dig_len n; omega)]
  simp only [small_dig _ hm]
  rw [if_pos h]
theorem num_numR {most : Nat} {r t : List UInt8} {n : Nat} (h : numR most r = some (n, t)) : r = numL n ++ t ∧ n ≤ most := by
  unfold numR at h
  split at h
  · cases h
  rename_i s t' hw
  split at h
  · cases h
  rename_i m hm
  split at h
  rotate_left
  · cases h
  rename_i hle
  cases h
  obtain ⟨e, _⟩ := word_wordR hw
  obtain ⟨e2, _⟩ := dig_small hm
  exact ⟨by unfold numL; rw [← e2]; exact e, hle⟩
def ofR (y n : UInt8) (r : List UInt8) : Option (Bool × List UInt8) :=
  match wordR r with
  | none => none
  | some (s, t) => if s == [y] || s == [n] then some (s == [y], t) else none
theorem ofR_of (y n : UInt8) (hyn : (n == y) = false) (b : Bool) (t : List UInt8) : ofR y n (wordL [if b then y else n] ++ t) = some (b, t) := by
  unfold ofR
  rw [wordR_word [if b then y else n] t (show 1 < 1000 by decide)]
  cases b with
  | true => simp
  | false =>
    have h2 : ([n] == [y]) = false := by simpa using hyn
    simp [hyn]
theorem of_ofR {y n : UInt8} {r t : List UInt8} {b : Bool} (h : ofR y n r = some (b, t)) : r = wordL [if b then y else n] ++ t := by
  unfold ofR at h
  split at h
  · cases h
  rename_i s t' hw
  split at h
  rotate_left
  · cases h
  rename_i hs
  cases h
  obtain ⟨e, _⟩ := word_wordR hw
  rw [e]
  by_cases hy : (s == [y]) = true
  · rw [hy]; rw [beq_iff_eq] at hy; rw [hy]; rfl
  · rw [Bool.not_eq_true] at hy
    rw [hy] at hs ⊢
    simp only [Bool.false_or, beq_iff_eq] at hs
    rw [hs]; rfl
/-- so many of them -/
def manyR {α : Type} (f : List UInt8 → Option (α × List UInt8)) : Nat → List α → List UInt8 → Option (List α × List UInt8)
  | 0, acc, r => some (acc, r)
  | k + 1, acc, r => match f r with
    | none => none
    | some (a, t) => manyR f k (acc ++ [a]) t
theorem manyR_enc {α : Type} {f : List UInt8 → Option (α × List UInt8)} {g : α → List UInt8} : ∀ (l acc : List α) (t : List UInt8), (∀ a ∈ l, ∀ t, f (g a ++ t) = some (a, t)) → manyR f l.length acc (l.flatMap g ++ t) = some (acc ++ l, t)
  | [], acc, t, _ => by simp [manyR]
  | a :: l, acc, t, h => by
    rw [List.flatMap_cons, List.append_assoc, List.length_cons, manyR, h a (.head _)]
    show manyR f l.length (acc ++ [a]) _ = _
    rw [manyR_enc l _ t (fun b hb => h b (.tail _ hb))]
    simp
theorem enc_manyR {α : Type} {f : List UInt8 → Option (α × List UInt8)} {g : α → List UInt8} (h : ∀ r a t, f r = some (a, t) → r = g a ++ t) : ∀ (k : Nat) (acc l : List α) (r t : List UInt8), manyR f k acc r = some (l, t) → ∃ m, l = acc ++ m ∧ m.length = k ∧ r = m.flatMap g ++ t
  | 0, acc, l, r, t, e => by
    cases e
    exact ⟨[], by simp, rfl, rfl⟩
  | k + 1, acc, l, r, t, e => by
    rw [manyR] at e
    split at e
    · cases e
    rename_i a t' hf
    obtain ⟨m, e1, e2, e3⟩ := enc_manyR h k _ _ _ _ e
    refine ⟨a :: m, by rw [e1]; simp, by simp [e2], ?_⟩
    rw [List.flatMap_cons, List.append_assoc, ← e3]
    exact h _ _ _ hf

def affL (a : PAff) : List UInt8 := wordL (bl a.jid) ++ numL a.role.toNat
def subL (a : PSub) : List UInt8 := wordL (bl a.jid) ++ (wordL [if a.pending then 112 else 115] ++ numL a.depth.toNat)
def itemL (a : PItem) : List UInt8 := wordL (bl a.id) ++ (wordL (bl a.pub) ++ wordL (bl a.text))
/-- a node's text -/
def encL (n : PNode) : List UInt8 :=
  wordL (bl n.name) ++ (wordL [if n.coll then 99 else 108] ++ (numL n.access.toNat ++ (numL n.max.toNat ++ (wordL (bl n.parent) ++ (numL n.affs.length ++ (n.affs.flatMap affL ++ (numL n.subs.length ++ (n.subs.flatMap subL ++ (numL n.items.length ++ (n.items.flatMap itemL ++ []))))))))))
def affR (r : List UInt8) : Option (PAff × List UInt8) := match wordR r with
  | none => none
  | some (s, t) => match numR 5 t with | none => none | some (k, t) => some (⟨bs s, k⟩, t)
def subR (r : List UInt8) : Option (PSub × List UInt8) := match wordR r with
  | none => none
  | some (s, t) => match ofR 112 115 t with
    | none => none
    | some (p, t) => match numR 255 t with | none => none | some (k, t) => some (⟨bs s, p, k⟩, t)
def itemR (r : List UInt8) : Option (PItem × List UInt8) := match wordR r with
  | none => none
  | some (s, t) => match wordR t with
    | none => none
    | some (p, t) => match wordR t with | none => none | some (x, t) => some (⟨bs s, bs p, bs x⟩, t)
def rowR {α : Type} (most : Nat) (f : List UInt8 → Option (α × List UInt8)) (r : List UInt8) : Option (List α × List UInt8) := match numR most r with
  | none => none
  | some (k, t) => manyR f k [] t
def headR (r : List UInt8) : Option (PNode × List UInt8) := match wordR r with
  | none => none
  | some (nm, r) => match ofR 99 108 r with
    | none => none
    | some (c, r) => match numR 2 r with
      | none => none
      | some (ac, r) => match numR 8 r with
        | none => none
        | some (mx, r) => match wordR r with
          | none => none
          | some (pa, r) => some (⟨bs nm, c, ac, mx, [], [], [], bs pa⟩, r)
def readR (r : List UInt8) : Option (PNode × List UInt8) := match headR r with
  | none => none
  | some (n, r) => match rowR 16 affR r with
    | none => none
    | some (a, r) => match rowR 16 subR r with
      | none => none
      | some (s, r) => match rowR 8 itemR r with
        | none => none
        | some (i, r) => some ({ n with affs := a, subs := s, items := i }, r)
/-- what a text says -/
def decR (p : Preds) (s : List UInt8) : Option PNode := match readR s with
  | none => none
  | some (n, r) => if r.isEmpty && rightN p n then some n else none

theorem affR_L (a : PAff) (hj : (bl a.jid).length < 1000) (h0 : 0 ≤ a.role) (h5 : a.role ≤ 5) (t : List UInt8) : affR (affL a ++ t) = some (a, t) := by
  unfold affR affL
  rw [List.append_assoc, wordR_word _ _ hj]
  simp only []
  rw [numR_num 5 _ _ (by omega) (by omega)]
  simp only [bs_bl]
  rw [show ((a.role.toNat : Nat) : Int) = a.role by omega]
theorem subR_L (a : PSub) (hj : (bl a.jid).length < 1000) (h0 : 0 ≤ a.depth) (h5 : a.depth ≤ 255) (t : List UInt8) : subR (subL a ++ t) = some (a, t) := by
  unfold subR subL
  rw [List.append_assoc, wordR_word _ _ hj]
  simp only []
  rw [List.append_assoc, ofR_of 112 115 (by decide)]
  simp only []
  rw [numR_num 255 _ _ (by omega) (by omega)]
  simp only [bs_bl]
  rw [show ((a.depth.toNat : Nat) : Int) = a.depth by omega]
theorem itemR_L (a : PItem) (h1 : (bl a.id).length < 1000) (h2 : (bl a.pub).length < 1000) (h3 : (bl a.text).length < 1000) (t : List UInt8) : itemR (itemL a ++ t) = some (a, t) := by
  unfold itemR itemL
  rw [List.append_assoc, wordR_word _ _ h1]
  simp only []
  rw [List.append_assoc, wordR_word _ _ h2]
  simp only []
  rw [wordR_word _ _ h3]
theorem affL_R (r : List UInt8) (a : PAff) (t : List UInt8) (h : affR r = some (a, t)) : r = affL a ++ t := by
  unfold affR at h
  split at h
  · cases h
  rename_i s t1 h1
  split at h
  · cases h
  rename_i k t2 h2
  cases h
  unfold affL
  rw [(word_wordR h1).1, (num_numR h2).1, bl_bs]
  simp
theorem subL_R (r : List UInt8) (a : PSub) (t : List UInt8) (h : subR r = some (a, t)) : r = subL a ++ t := by
  unfold subR at h
  split at h
  · cases h
  rename_i s t1 h1
  split at h
  · cases h
  rename_i p t2 h2
  split at h
  · cases h
  rename_i k t3 h3
  cases h
  unfold subL
  rw [(word_wordR h1).1, of_ofR h2, (num_numR h3).1, bl_bs]
  simp
theorem itemL_R (r : List UInt8) (a : PItem) (t : List UInt8) (h : itemR r = some (a, t)) : r = itemL a ++ t := by
  unfold itemR at h
  split at h
  · cases h
  rename_i s t1 h1
  split at h
  · cases h
  rename_i p t2 h2
  split at h
  · cases h
  rename_i x t3 h3
  cases h
  unfold itemL
  rw [(word_wordR h1).1, (word_wordR h2).1, (word_wordR h3).1, bl_bs, bl_bs, bl_bs]
  simp
theorem rowR_L {α : Type} {most : Nat} {f : List UInt8 → Option (α × List UInt8)} {g : α → List UInt8} (l : List α) (t : List UInt8) (h : ∀ a ∈ l, ∀ t, f (g a ++ t) = some (a, t)) (hm : l.length ≤ most) (h1 : l.length < 1000) : rowR most f (numL l.length ++ (l.flatMap g ++ t)) = some (l, t) := by
  unfold rowR
  rw [numR_num most _ _ hm h1]
  simp only []
  rw [manyR_enc l [] t h]
  rfl
theorem rowL_R {α : Type} {most : Nat} {f : List UInt8 → Option (α × List UInt8)} {g : α → List UInt8} (h : ∀ r a t, f r = some (a, t) → r = g a ++ t) {l : List α} {r t : List UInt8} (e : rowR most f r = some (l, t)) : r = numL l.length ++ (l.flatMap g ++ t) := by
  unfold rowR at e
  split at e
  · cases e
  rename_i k t1 h1
  obtain ⟨m, e1, e2, e3⟩ := enc_manyR h _ _ _ _ _ e
  obtain ⟨e4, _⟩ := num_numR h1
  rw [List.nil_append] at e1
  subst e1
  rw [e4, e3, e2]

/-- the sizes that a node's text may tell -/
structure Sizes (n : PNode) : Prop where
  name : (bl n.name).length < 1000
  parent : (bl n.parent).length < 1000
  aff : ∀ x ∈ n.affs, (bl x.jid).length < 1000
  sub : ∀ x ∈ n.subs, (bl x.jid).length < 1000
  item : ∀ x ∈ n.items, (bl x.id).length < 1000 ∧ (bl x.pub).length < 1000 ∧ (bl x.text).length < 1000
  acc : 0 ≤ n.access
theorem read_enc {p : Preds} {n : PNode} (h : RightP p n) (hs : Sizes n) : readR (encL n) = some (n, []) := by
  have hh := h.head
  unfold headN at hh
  simp only [Bool.and_eq_true, decide_eq_true_eq] at hh
  have hmx : n.max ≤ 8 := by have := hh.1.2; split at this <;> omega
  have hit : n.items.length ≤ 8 := by have := h.most; omega
  unfold readR headR encL
  rw [wordR_word _ _ hs.name]
  simp only []
  rw [ofR_of 99 108 (by decide)]
  simp only []
  rw [numR_num 2 _ _ (by omega) (by omega)]
  simp only []
  rw [numR_num 8 _ _ (by have := hh.1.1.2; omega) (by omega)]
  simp only []
  rw [wordR_word _ _ hs.parent]
  simp only []
  rw [rowR_L n.affs _ (fun a ha t => affR_L a (hs.aff a ha) ?_ ?_ t) h.affLen (by have := h.affLen; omega)]
  rotate_left
  · have := h.roles a ha; unfold roleOk at this; simp only [Bool.or_eq_true, beq_iff_eq] at this; omega
  · have := h.roles a ha; unfold roleOk at this; simp only [Bool.or_eq_true, beq_iff_eq] at this; omega
  simp only []
  rw [rowR_L n.subs _ (fun a ha t => subR_L a (hs.sub a ha) ?_ ?_ t) h.subLen (by have := h.subLen; omega)]
  rotate_left
  · have := h.depth a ha; unfold depthBad at this; simp only [Bool.or_eq_false_iff, decide_eq_false_iff_not] at this; omega
  · have := h.depth a ha; unfold depthBad at this; simp only [Bool.or_eq_false_iff, decide_eq_false_iff_not] at this; omega
  simp only []
  rw [rowR_L n.items _ (fun a ha t => itemR_L a (hs.item a ha).1 (hs.item a ha).2.1 (hs.item a ha).2.2 t) hit (by omega)]
  simp only [bs_bl]
  have e1 : ((n.access.toNat : Nat) : Int) = n.access := by have := hs.acc; omega
  have e2 : ((n.max.toNat : Nat) : Int) = n.max := by have := hh.1.1.2; omega
  rw [e1, e2]
theorem dec_enc {p : Preds} {n : PNode} (h : RightP p n) (hs : Sizes n) : decR p (encL n) = some n := by
  unfold decR
  rw [read_enc h hs]
  show (if (([] : List UInt8).isEmpty && rightN p n) = true then some n else none) = _
  rw [(right_iff p n).2 h]
  rfl
theorem enc_read {s r : List UInt8} {n : PNode} (h : readR s = some (n, r)) (hr : r = []) : encL n = s := by
  subst hr
  unfold readR at h
  split at h
  · cases h
  rename_i n0 r0 h0
  split at h
  · cases h
  rename_i la r1 h1
  split at h
  · cases h
  rename_i ls r2 h2
  split at h
  · cases h
  rename_i li r3 h3
  cases h
  have e1 := rowL_R affL_R h1
  have e2 := rowL_R subL_R h2
  have e3 := rowL_R itemL_R h3
  unfold headR at h0
  split at h0
  · cases h0
  rename_i nm q1 k1
  split at h0
  · cases h0
  rename_i c q2 k2
  split at h0
  · cases h0
  rename_i ac q3 k3
  split at h0
  · cases h0
  rename_i mx q4 k4
  split at h0
  · cases h0
  rename_i pa q5 k5
  cases h0
  unfold encL
  rw [(word_wordR k1).1, of_ofR k2, (num_numR k3).1, (num_numR k4).1, (word_wordR k5).1, e1, e2, e3]
  simp only [bl_bs, Int.toNat_natCast]
theorem enc_dec {p : Preds} {s : List UInt8} {n : PNode} (h : decR p s = some n) : encL n = s ∧ rightN p n = true := by
  unfold decR at h
  split at h
  · cases h
  rename_i m r hm
  split at h
  rotate_left
  · cases h
  rename_i hok
  cases h
  simp only [Bool.and_eq_true, List.isEmpty_iff] at hok
  exact ⟨enc_read hm hok.1, hok.2⟩
end Go.Proofs.YtpjaopcgoaannaaGreatDoor
