/- Plain laws of characters, escapes and names: what a valid decode depends on, characters of an escaped text, of two texts behind one another. No program in it. -/
import Derived.Test.YtmfeojhphdmodaaDoorTp
import Derived.Test.YtmfeojhphdmodaaDoorTn
namespace Go.Proofs.YtmfeojhphdmodaaDoor
open Go.Lib

theorem d2 {n b0 b1 b2 b3 : Nat} (h : b0 / 32 = 6) (hn : 1 < n) (h1 : b1 / 64 = 2) (hv : 128 ≤ b0 % 32 * 64 + b1 % 64) : decodeN n b0 b1 b2 b3 = (b0 % 32 * 64 + b1 % 64, 2) := by
  unfold decodeN
  rw [if_neg (by omega), if_pos ⟨h, hn, h1⟩, if_pos hv]

theorem d3 {n b0 b1 b2 b3 : Nat} (h : b0 / 16 = 14) (hn : 2 < n) (h1 : b1 / 64 = 2) (h2 : b2 / 64 = 2) (hv : 2048 ≤ b0 % 16 * 4096 + b1 % 64 * 64 + b2 % 64)
    (hs : b0 % 16 * 4096 + b1 % 64 * 64 + b2 % 64 < 55296 ∨ 57344 ≤ b0 % 16 * 4096 + b1 % 64 * 64 + b2 % 64) : decodeN n b0 b1 b2 b3 = (b0 % 16 * 4096 + b1 % 64 * 64 + b2 % 64, 3) := by
  unfold decodeN
  rw [if_neg (by omega), if_neg (by omega), if_pos ⟨h, ⟨by omega, h1⟩, ⟨hn, h2⟩⟩, if_pos ⟨hv, by omega⟩]

theorem d4 {n b0 b1 b2 b3 : Nat} (h : b0 / 8 = 30) (hn : 3 < n) (h1 : b1 / 64 = 2) (h2 : b2 / 64 = 2) (h3 : b3 / 64 = 2) (hv : 65536 ≤ b0 % 8 * 262144 + b1 % 64 * 4096 + b2 % 64 * 64 + b3 % 64)
    (hs : b0 % 8 * 262144 + b1 % 64 * 4096 + b2 % 64 * 64 + b3 % 64 ≤ 1114111) : decodeN n b0 b1 b2 b3 = (b0 % 8 * 262144 + b1 % 64 * 4096 + b2 % 64 * 64 + b3 % 64, 4) := by
  unfold decodeN
  rw [if_neg (by omega), if_neg (by omega), if_neg (by omega), if_pos ⟨h, ⟨by omega, h1⟩, ⟨by omega, h2⟩, ⟨hn, h3⟩⟩, if_pos ⟨hv, by omega⟩]

theorem shape3 : ∀ l : List UInt8, 2 < l.length → ∃ a b c q, l = a :: b :: c :: q
  | [], h => by simp at h
  | [_], h => by simp at h
  | [_, _], h => by simp at h
  | a :: b :: c :: q, _ => ⟨a, b, c, q, rfl⟩
theorem shape4 : ∀ l : List UInt8, 3 < l.length → ∃ a b c d q, l = a :: b :: c :: d :: q
  | [], h => by simp at h
  | [_], h => by simp at h
  | [_, _], h => by simp at h
  | [_, _, _], h => by simp at h
  | a :: b :: c :: d :: q, _ => ⟨a, b, c, d, q, rfl⟩

/-- A decode is either the invalid byte, or it takes a head of the text, and depends on that head alone; a head of more than one byte has no ASCII in it. -/
theorem dec_class (l : List UInt8) (hne : l ≠ []) : decodeL l = (65533, 1) ∨
    ∃ p q, l = p ++ q ∧ p ≠ [] ∧ p.length = (decodeL l).2 ∧ ((∃ c, p = [c] ∧ c.toNat < 128 ∧ (decodeL l).1 = c.toNat) ∨ (2 ≤ p.length ∧ ∀ b ∈ p, 128 ≤ b.toNat)) ∧ ∀ t, decodeL (p ++ t) = decodeL l := by
  have hl : 0 < l.length := List.length_pos_iff.2 hne
  have e := decodeL_N l
  rcases decodeN_shape l.length (l.getD 0 0).toNat (l.getD 1 0).toNat (l.getD 2 0).toNat (l.getD 3 0).toNat with ⟨c, k⟩ | ⟨c1, c2, c3, cv, k⟩ | ⟨c1, c2, c3, c4, cv, cs, k⟩ | ⟨c1, c2, c3, c4, c5, cv, cw, k⟩ | k
  · right
    rw [k] at e
    match l, hl with
    | a :: l', _ =>
      refine ⟨[a], l', rfl, by simp, by rw [e]; rfl, Or.inl ⟨a, rfl, c, by rw [e]; rfl⟩, fun t => ?_⟩
      rw [e, List.singleton_append, decodeL_ascii a t c]
      rfl
  · right
    rw [k] at e
    match l, c2 with
    | a :: b :: l', _ =>
      simp only [List.getD_cons_zero, List.getD_cons_succ] at c1 c3 cv k e
      refine ⟨[a, b], l', rfl, by simp, by rw [e]; rfl, Or.inr ⟨by simp, by simp; omega⟩, fun t => ?_⟩
      rw [decodeL_N, e]
      simp only [List.cons_append, List.getD_cons_zero, List.getD_cons_succ]
      exact d2 c1 (by simp) c3 cv
  · right
    rw [k] at e
    clear k
    obtain ⟨a, b, c, l', rfl⟩ := shape3 l c2
    simp only [List.getD_cons_zero, List.getD_cons_succ] at c1 c3 c4 cv cs e
    refine ⟨[a, b, c], l', rfl, by simp, by rw [e]; rfl, Or.inr ⟨by simp, by simp; omega⟩, fun t => ?_⟩
    rw [decodeL_N, e]
    simp only [List.cons_append, List.getD_cons_zero, List.getD_cons_succ]
    exact d3 c1 (by simp) c3 c4 cv cs
  · right
    rw [k] at e
    clear k
    obtain ⟨a, b, c, d, l', rfl⟩ := shape4 l c2
    simp only [List.getD_cons_zero, List.getD_cons_succ] at c1 c3 c4 c5 cv cw e
    refine ⟨[a, b, c, d], l', rfl, by simp, by rw [e]; rfl, Or.inr ⟨by simp, by simp; omega⟩, fun t => ?_⟩
    rw [decodeL_N, e]
    simp only [List.cons_append, List.getD_cons_zero, List.getD_cons_succ]
    exact d4 c1 (by simp) c3 c4 c5 cv cw
  · left
    rw [e, k]

theorem chars_append : ∀ (n : Nat) (s t : List UInt8), s.length ≤ n → chars s = true → chars t = true → chars (s ++ t) = true
  | 0, s, t, h, _, ht => by
    obtain rfl := List.eq_nil_of_length_eq_zero (Nat.le_zero.1 h)
    exact ht
  | n + 1, s, t, h, hs, ht => by
    by_cases hne : s = []
    · subst hne; exact ht
    · rw [chars_step s hne] at hs
      rcases dec_class s hne with hb | ⟨p, q, rfl, hp, hw, -, hall⟩
      · rw [if_pos (Or.inl (by rw [hb]; exact ⟨rfl, rfl⟩))] at hs
        cases hs
      · have hd : decodeL (p ++ q ++ t) = decodeL (p ++ q) := by rw [List.append_assoc, hall]
        have hne' : p ++ q ++ t ≠ [] := by simp [hp]
        rw [chars_step _ hne', hd]
        split at hs
        · cases hs
        · rename_i hbad
          rw [if_neg hbad, ← hw]
          rw [← hw, List.drop_left] at hs
          rw [List.append_assoc, List.drop_left]
          have hpl : 0 < p.length := List.length_pos_iff.2 hp
          exact chars_append n q t (by simp at h; omega) hs ht

theorem nameOf_ascii {c : UInt8} {nm : List UInt8} (h : nameOf c = some nm) : 32 ≤ c.toNat ∧ c.toNat < 128 ∧ ∀ b ∈ nm, 32 ≤ b.toNat ∧ b.toNat < 128 := by
  unfold nameOf at h
  repeat' split at h
  all_goals first | (obtain rfl := Option.some.inj h; subst_vars; exact ⟨by decide, by decide, by decide⟩) | (simp at h; done)

theorem chars_ascii (c : UInt8) (l : List UInt8) (h : c.toNat < 128) : chars (c :: l) = if badR c.toNat then false else chars l := by
  rw [chars_step _ (by simp), decodeL_ascii c l h]
  simp only [List.drop_succ_cons, List.drop_zero]
  by_cases hb : badR c.toNat
  · rw [if_pos hb, if_pos (Or.inr hb)]
  · rw [if_neg hb, if_neg (fun hx => hx.elim (fun h1 => by omega) hb)]

theorem chars_plain (c : UInt8) (l : List UInt8) (h0 : 32 ≤ c.toNat) (h : c.toNat < 128) : chars (c :: l) = chars l := by
  rw [chars_ascii c l h, if_neg (by unfold badR; omega)]

theorem chars_plains : ∀ (p l : List UInt8), (∀ b ∈ p, 32 ≤ b.toNat ∧ b.toNat < 128) → chars (p ++ l) = chars l
  | [], _, _ => rfl
  | b :: p, l, h => by
    have hb := h b (by simp)
    rw [List.cons_append, chars_plain b _ hb.1 hb.2, chars_plains p l fun x hx => h x (by simp [hx])]

theorem escB_high {c : UInt8} (h : 128 ≤ c.toNat) : escB c = [c] := by
  unfold escB
  cases hn : nameOf c with
  | none => rfl
  | some nm => have := (nameOf_ascii hn).2.1; omega

theorem esc_high : ∀ (p q : List UInt8), (∀ b ∈ p, 128 ≤ b.toNat) → esc (p ++ q) = p ++ esc q
  | [], _, _ => rfl
  | b :: p, q, h => by
    rw [List.cons_append, esc_cons, escB_high (h b (by simp)), esc_high p q fun x hx => h x (by simp [hx])]
    rfl

theorem escB_head {c : UInt8} {x : UInt8} {r : List UInt8} (h : escB c = x :: r) (hx : 128 ≤ x.toNat) : c = x ∧ r = [] := by
  unfold escB at h
  cases hn : nameOf c with
  | none => rw [hn] at h; simpa using h
  | some nm => rw [hn] at h; simp at h; obtain ⟨rfl, -⟩ := h; simp at hx

theorem escB_ne (c : UInt8) : escB c ≠ [] := by
  unfold escB; split <;> simp

theorem esc_of_high : ∀ (p q l : List UInt8), (∀ b ∈ p, 128 ≤ b.toNat) → esc l = p ++ q → ∃ q', l = p ++ q' ∧ esc q' = q
  | [], q, l, _, h => ⟨l, rfl, h⟩
  | b :: p, q, [], _, h => by simp [esc] at h
  | b :: p, q, c :: l, hp, h => by
    rw [esc_cons] at h
    cases he : escB c with
    | nil => exact absurd he (escB_ne c)
    | cons x r =>
      rw [he, List.cons_append, List.cons_append, List.cons.injEq] at h
      obtain ⟨rfl, h2⟩ := h
      obtain ⟨rfl, rfl⟩ := escB_head he (hp _ (by simp))
      obtain ⟨q', rfl, h3⟩ := esc_of_high p q l (fun y hy => hp y (by simp [hy])) h2
      exact ⟨q', rfl, h3⟩

theorem esc_ne {l : List UInt8} (h : l ≠ []) : esc l ≠ [] := by
  cases l with
  | nil => exact absurd rfl h
  | cons c l => rw [esc_cons]; simp [escB_ne]

theorem chars_esc : ∀ (n : Nat) (l : List UInt8), l.length ≤ n → chars (esc l) = chars l
  | 0, l, h => by
    obtain rfl := List.eq_nil_of_length_eq_zero (Nat.le_zero.1 h)
    rfl
  | n + 1, [], _ => rfl
  | n + 1, c :: l, h => by
    have hl : l.length ≤ n := by simpa using h
    by_cases hc : c.toNat < 128
    · rw [esc_cons]
      unfold escB
      cases hn : nameOf c with
      | none =>
        show chars (c :: esc l) = _
        rw [chars_ascii c _ hc, chars_ascii c _ hc, chars_esc n l hl]
      | some nm =>
        have ha := nameOf_ascii hn
        show chars ((38 :: (nm ++ [59])) ++ esc l) = _
        rw [chars_plains _ _ (by
          intro b hb
          simp only [List.mem_cons, List.mem_append, List.not_mem_nil, or_false] at hb
          rcases hb with rfl | hb | rfl
          · decide
          · exact ha.2.2 b hb
          · decide), chars_esc n l hl, chars_plain c l ha.1 ha.2.1]
    · have hne : c :: l ≠ [] := by simp
      have hc' : 128 ≤ c.toNat := by omega
      have hv : ∀ m : List UInt8, m.length ≤ n + 1 → ∀ p q, m = p ++ q → p ≠ [] → p.length = (decodeL m).2 → (∀ b ∈ p, 128 ≤ b.toNat) → (∀ t, decodeL (p ++ t) = decodeL m) → chars (esc m) = chars m := by
        intro m hm p q he hp hw hhi hall
        subst he
        have hpl : 0 < p.length := List.length_pos_iff.2 hp
        rw [esc_high p q hhi, chars_step (p ++ esc q) (by simp [hp]), chars_step (p ++ q) (by simp [hp]), hall, ← hw, List.drop_left, List.drop_left, chars_esc n q (by simp at hm; omega)]
      rcases dec_class (c :: l) hne with hb | ⟨p, q, he, hp, hw, hh, hall⟩
      · have hr : chars (c :: l) = false := by rw [chars_step _ hne, if_pos (Or.inl (by rw [hb]; exact ⟨rfl, rfl⟩))]
        rcases dec_class (esc (c :: l)) (esc_ne hne) with hb' | ⟨p, q, he, hp, hw, hh, hall⟩
        · rw [hr, chars_step _ (esc_ne hne), if_pos (Or.inl (by rw [hb']; exact ⟨rfl, rfl⟩))]
        · have hhi : ∀ b ∈ p, 128 ≤ b.toNat := by
            rcases hh with ⟨x, rfl, hx, -⟩ | ⟨-, hh⟩
            · exfalso
              rw [esc_cons, escB_high hc'] at he
              simp at he
              obtain ⟨rfl, -⟩ := he
              omega
            · exact hh
          obtain ⟨q', h1, h2⟩ := esc_of_high p q _ hhi he
          refine hv (c :: l) h p q' h1 hp ?_ hhi ?_
          · rw [h1, hall q']; exact hw
          · intro t; exact (hall t).trans ((hall q').symm.trans (congrArg decodeL h1.symm))
      · have hhi : ∀ b ∈ p, 128 ≤ b.toNat := by
          rcases hh with ⟨x, rfl, hx, -⟩ | ⟨-, hh⟩
          · exfalso
            simp at he
            obtain ⟨rfl, -⟩ := he
            omega
          · exact hh
        exact hv (c :: l) h p q he hp hw hhi hall

theorem escB_safe (c : UInt8) : ∀ b ∈ escB c, b.toNat ≠ 60 ∧ b.toNat ≠ 62 ∧ b.toNat ≠ 39 ∧ b.toNat ≠ 34 := by
  have key : ∀ n, n < 256 → ∀ b ∈ escB (UInt8.ofNat n), b.toNat ≠ 60 ∧ b.toNat ≠ 62 ∧ b.toNat ≠ 39 ∧ b.toNat ≠ 34 := by decide +kernel
  have := key c.toNat c.toNat_lt
  rwa [UInt8.ofNat_toNat] at this
theorem esc_safe (l : List UInt8) : ∀ b ∈ esc l, b.toNat ≠ 60 ∧ b.toNat ≠ 62 ∧ b.toNat ≠ 39 ∧ b.toNat ≠ 34 := by
  intro b hb
  unfold esc at hb
  obtain ⟨c, -, hc⟩ := List.mem_flatMap.1 hb
  exact escB_safe c b hc
theorem esc_longer : ∀ l : List UInt8, l.length ≤ (esc l).length
  | [] => Nat.le_refl _
  | c :: l => by
    have := esc_longer l
    have hc : 0 < (escB c).length := List.length_pos_iff.2 (escB_ne c)
    rw [esc_cons, List.length_append, List.length_cons]
    omega

theorem space_append (s t : List UInt8) : space (s ++ t) = (space s && space t) := by simp [space]

/-! ### names -/
theorem ok_letter {b : Bool} {c : UInt8} (h : (firstN c.toNat || (!b && laterN c.toNat)) = true) : nameOf c = none ∧ 32 ≤ c.toNat ∧ c.toNat < 128 := by
  have key : ∀ n, n < 256 → (firstN n || laterN n) = true → nameOf (UInt8.ofNat n) = none ∧ 32 ≤ n ∧ n < 128 := by decide +kernel
  have := key c.toNat c.toNat_lt
  rw [UInt8.ofNat_toNat] at this
  apply this
  revert h
  cases firstN c.toNat <;> cases laterN c.toNat <;> cases b <;> simp
theorem ok_false : ∀ (l : List UInt8) (b : Bool), okFrom b l = true → esc l = l ∧ chars l = true
  | [], _, _ => ⟨rfl, rfl⟩
  | c :: l, b, h => by
    unfold okFrom at h
    rw [Bool.and_eq_true] at h
    obtain ⟨h1, h2, h3⟩ := ok_letter h.1
    obtain ⟨k1, k2⟩ := ok_false l false h.2
    refine ⟨?_, by rw [chars_plain c l h2 h3, k2]⟩
    rw [esc_cons, k1]
    simp [escB, h1]
theorem ok_take : ∀ (l : List UInt8) (b : Bool) (k : Nat), okFrom b l = true → okFrom b (l.take k) = true
  | [], _, _, _ => by simp [okFrom]
  | c :: l, b, 0, _ => rfl
  | c :: l, b, k + 1, h => by
    unfold okFrom at h
    rw [Bool.and_eq_true] at h
    rw [List.take_succ_cons]
    unfold okFrom
    rw [h.1, ok_take l false k h.2]
    rfl
theorem ok_snoc : ∀ (l : List UInt8) (b : Bool), okFrom b l = true → okFrom b (l ++ [97]) = true
  | [], b, _ => by cases b <;> rfl
  | c :: l, b, h => by
    unfold okFrom at h
    rw [Bool.and_eq_true] at h
    rw [List.cons_append]
    unfold okFrom
    rw [h.1, ok_snoc l false h.2]
    rfl
theorem isName_len {l : List UInt8} (h : isName l = true) : okFrom true l = true ∧ 1 ≤ l.length ∧ l.length ≤ 32 := by
  unfold isName at h
  rw [Bool.and_eq_true, decide_eq_true_eq] at h
  exact h
theorem isName_take {l : List UInt8} (h : isName l = true) (k : Nat) (hk : 1 ≤ k) (hkl : k ≤ l.length) : isName (l.take k) = true := by
  obtain ⟨h1, h2, h3⟩ := isName_len h
  unfold isName
  rw [ok_take l true k h1, Bool.true_and, decide_eq_true_eq, List.length_take]
  omega
theorem isName_snoc {l : List UInt8} (h : isName l = true) : isName (l ++ [97]) = decide (l.length < 32) := by
  obtain ⟨h1, h2, h3⟩ := isName_len h
  unfold isName
  rw [ok_snoc l true h1, Bool.true_and, List.length_append, List.length_singleton]
  exact decide_eq_decide.2 (by omega)
end Go.Proofs.YtmfeojhphdmodaaDoor
