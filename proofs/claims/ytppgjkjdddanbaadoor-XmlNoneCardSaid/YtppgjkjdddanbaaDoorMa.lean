/- A tree of values by number: get, set, and their laws. No program in it. -/
import Derived.Calls
namespace Go.Proofs.YtppgjkjdddanbaaDoor.M

inductive Tr (α : Type) where
  | emp
  | n (l : Tr α) (v : Option α) (r : Tr α)

namespace Tr
variable {α : Type}
/-- written with the recursor itself, and with Bools: the kernel is quick at these -/
noncomputable def get (t : Tr α) : Nat → Option α :=
  Tr.rec (motive := fun _ => Nat → Option α) (fun _ => none) (fun _ v _ l r k => Bool.rec (Bool.rec (r (Nat.sub (Nat.div k 2) 1)) (l (Nat.div k 2)) (Nat.beq (Nat.mod k 2) 1)) v (Nat.beq k 0)) t

/-- fuel, then the place -/
noncomputable def putF (f : Nat) (x : Option α) : Tr α → Nat → Tr α :=
  Nat.rec (motive := fun _ => Tr α → Nat → Tr α) (fun t _ => t)
    (fun _ g t k => Tr.rec (motive := fun _ => Tr α)
      (Bool.rec (Bool.rec (n emp none (g emp (Nat.sub (Nat.div k 2) 1))) (n (g emp (Nat.div k 2)) none emp) (Nat.beq (Nat.mod k 2) 1)) (n emp x emp) (Nat.beq k 0))
      (fun l v r _ _ => Bool.rec (Bool.rec (n l v (g r (Nat.sub (Nat.div k 2) 1))) (n (g l (Nat.div k 2)) v r) (Nat.beq (Nat.mod k 2) 1)) (n l x r) (Nat.beq k 0)) t) f
noncomputable def put (t : Tr α) (k : Nat) (x : Option α) : Tr α := putF (Nat.succ k) x t k
noncomputable def set (t : Tr α) (k : Nat) (x : α) : Tr α := t.put k (some x)

theorem bif2 {β : Type} (c : Bool) (a b : β) : (Bool.rec (motive := fun _ => β) b a c) = if c = true then a else b := by cases c <;> rfl
theorem beq_iff (a b : Nat) : (Nat.beq a b = true) = (a = b) := propext ⟨Nat.eq_of_beq_eq_true, fun h => by subst h; exact Nat.beq_refl a⟩
theorem get_e (k : Nat) : (emp : Tr α).get k = none := rfl
theorem get_n (l r : Tr α) (v : Option α) (k : Nat) : (n l v r).get k = if k = 0 then v else if k % 2 = 1 then l.get (k / 2) else r.get (k / 2 - 1) := by
  show Bool.rec (motive := fun _ => Option α) (Bool.rec (r.get (k / 2 - 1)) (l.get (k / 2)) (Nat.beq (k % 2) 1)) v (Nat.beq k 0) = _
  simp only [bif2, beq_iff]
theorem putF_e (f : Nat) (x : Option α) (k : Nat) : putF (f + 1) x (emp : Tr α) k = if k = 0 then n emp x emp else if k % 2 = 1 then n (putF f x emp (k / 2)) none emp else n emp none (putF f x emp (k / 2 - 1)) := by
  show Bool.rec (motive := fun _ => Tr α) (Bool.rec (n emp none (putF f x emp (k / 2 - 1))) (n (putF f x emp (k / 2)) none emp) (Nat.beq (k % 2) 1)) (n emp x emp) (Nat.beq k 0) = _
  simp only [bif2, beq_iff]
theorem putF_n (f : Nat) (x : Option α) (l r : Tr α) (v : Option α) (k : Nat) : putF (f + 1) x (n l v r) k = if k = 0 then n l x r else if k % 2 = 1 then n (putF f x l (k / 2)) v r else n l v (putF f x r (k / 2 - 1)) := by
  show Bool.rec (motive := fun _ => Tr α) (Bool.rec (n l v (putF f x r (k / 2 - 1))) (n (putF f x l (k / 2)) v r) (Nat.beq (k % 2) 1)) (n l x r) (Nat.beq k 0) = _
  simp only [bif2, beq_iff]

theorem get_putF (x : Option α) : ∀ (f : Nat) (t : Tr α) (k j : Nat), k < f → (putF f x t k).get j = if j = k then x else t.get j := by
  intro f
  induction f with
  | zero => intro t k j h; omega
  | succ f ih =>
    intro t k j h
    by_cases hk : k = 0
    · subst hk
      cases t with
      | emp =>
        rw [putF_e, if_pos rfl, get_n, get_e, get_e, get_e]
        by_cases hj : j = 0 <;> simp [hj]
      | n l v r =>
        rw [putF_n, if_pos rfl, get_n, get_n]
        by_cases hj : j = 0 <;> simp [hj]
    · by_cases ho : k % 2 = 1
      · have h1 : k / 2 < f := by omega
        have key : ∀ (l : Tr α) (v : Option α) (r : Tr α), (n (putF f x l (k / 2)) v r).get j = if j = k then x else (n l v r).get j := by
          intro l v r
          rw [get_n, get_n, ih _ _ _ h1]
          by_cases hj : j = 0
          · subst hj
            rw [if_neg (show ¬ 0 = k by omega)]
            simp
          · simp only [hj, if_false]
            by_cases hjo : j % 2 = 1
            · simp only [hjo, if_true]
              by_cases hjk : j = k
              · simp [hjk]
              · rw [if_neg hjk, if_neg (by omega)]
            · simp only [hjo, if_false]
              rw [if_neg (show ¬ j = k by intro he; subst he; exact hjo ho)]
        cases t with
        | emp =>
          rw [putF_e, if_neg hk, if_pos ho, key]
          by_cases hj : j = k
          · rw [if_pos hj, if_pos hj]
          · rw [if_neg hj, if_neg hj, get_n, get_e, get_e, get_e]; simp
        | n l v r =>
          rw [putF_n, if_neg hk, if_pos ho, key]
      · have h1 : k / 2 - 1 < f := by omega
        have key : ∀ (l : Tr α) (v : Option α) (r : Tr α), (n l v (putF f x r (k / 2 - 1))).get j = if j = k then x else (n l v r).get j := by
          intro l v r
          rw [get_n, get_n, ih _ _ _ h1]
          by_cases hj : j = 0
          · subst hj
            rw [if_neg (show ¬ 0 = k by omega)]
            simp
          · simp only [hj, if_false]
            by_cases hjo : j % 2 = 1
            · simp only [hjo, if_true]
              rw [if_neg (show ¬ j = k by intro he; subst he; exact ho hjo)]
            · simp only [hjo, if_false]
              by_cases hjk : j = k
              · simp [hjk]
              · rw [if_neg hjk, if_neg (by omega)]
        cases t with
        | emp =>
          rw [putF_e, if_neg hk, if_neg ho, key]
          by_cases hj : j = k
          · rw [if_pos hj, if_pos hj]
          · rw [if_neg hj, if_neg hj, get_n, get_e, get_e, get_e]; simp
        | n l v r =>
          rw [putF_n, if_neg hk, if_neg ho, key]

theorem get_put (t : Tr α) (k j : Nat) (x : Option α) : (t.put k x).get j = if j = k then x else t.get j := get_putF x _ t k j (Nat.lt_succ_self k)
theorem get_set (t : Tr α) (k j : Nat) (x : α) : (t.set k x).get j = if j = k then some x else t.get j := get_put t k j (some x)

/-- a row of things, from place i on -/
noncomputable def putAll (t : Tr α) : Nat → List α → Tr α
  | _, [] => t
  | i, x :: xs => (t.set i x).putAll (i + 1) xs
theorem get_putAll : ∀ (xs : List α) (t : Tr α) (i j : Nat), (t.putAll i xs).get j = if i ≤ j then (match xs[j - i]? with | some x => some x | none => t.get j) else t.get j := by
  intro xs
  induction xs with
  | nil => intro t i j; simp [putAll]
  | cons x xs ih =>
    intro t i j
    simp only [putAll, ih, get_set]
    by_cases h1 : i + 1 ≤ j
    · have h3 : j - i = (j - (i + 1)) + 1 := by omega
      have h4 : ¬ j = i := by omega
      have h5 : i ≤ j := by omega
      simp only [h1, h4, h5, if_true, if_false, h3, List.getElem?_cons_succ]
    · by_cases h2 : j = i
      · subst h2
        simp [h1]
      · have h5 : ¬ i ≤ j := by omega
        simp only [h1, h2, h5, if_false]
/-- the things at i .. i + m -/
noncomputable def row (t : Tr α) : Nat → Nat → Option (List α)
  | _, 0 => some []
  | i, m + 1 => match t.get i with
    | none => none
    | some x => match t.row (i + 1) m with
      | none => none
      | some xs => some (x :: xs)
theorem row_get {t : Tr α} : ∀ {m i : Nat} {xs : List α}, t.row i m = some xs → xs.length = m ∧ ∀ j, j < m → t.get (i + j) = xs[j]? := by
  intro m
  induction m with
  | zero => intro i xs h; simp [row] at h; subst h; exact ⟨rfl, fun j hj => by omega⟩
  | succ m ih =>
    intro i xs h
    simp only [row] at h
    split at h
    · cases h
    · rename_i x hx
      split at h
      · cases h
      · rename_i ys hys
        obtain rfl := Option.some.inj h
        obtain ⟨h1, h2⟩ := ih hys
        refine ⟨by simp [h1], fun j hj => ?_⟩
        cases j with
        | zero => simpa using hx
        | succ j =>
          rw [List.getElem?_cons_succ, ← h2 j (by omega)]
          congr 1; omega
end Tr
end Go.Proofs.YtppgjkjdddanbaaDoor.M
