/- A tree of values by number: get, set, and their laws: sixteen branches a level, places told by lenses that the kernel makes once. No program in it. -/
import Derived.Calls
namespace Go.Proofs.YtkgmpkoamicheaaGreatDoor.M

structure Nd (β : Type) where
  (c0 c1 c2 c3 c4 c5 c6 c7 c8 c9 c10 c11 c12 c13 c14 c15 : β)
structure Lens (S A : Type) where
  g : S → A
  s : A → S → S
namespace Lens
variable {S M A : Type}
def comp (a : Lens S M) (b : Lens M A) : Lens S A := ⟨fun t => b.g (a.g t), fun x t => a.s (b.s x (a.g t)) t⟩
end Lens
noncomputable section
variable {α β : Type}
def ln0 : Lens (Nd β) β := ⟨fun t => t.c0, fun x t => Nd.rec (motive := fun _ => Nd β) (fun _ c1 c2 c3 c4 c5 c6 c7 c8 c9 c10 c11 c12 c13 c14 c15 => ⟨x, c1, c2, c3, c4, c5, c6, c7, c8, c9, c10, c11, c12, c13, c14, c15⟩) t⟩
def ln1 : Lens (Nd β) β := ⟨fun t => t.c1, fun x t => Nd.rec (motive := fun _ => Nd β) (fun c0 _ c2 c3 c4 c5 c6 c7 c8 c9 c10 c11 c12 c13 c14 c15 => ⟨c0, x, c2, c3, c4, c5, c6, c7, c8, c9, c10, c11, c12, c13, c14, c15⟩) t⟩
def ln2 : Lens (Nd β) β := ⟨fun t => t.c2, fun x t => Nd.rec (motive := fun _ => Nd β) (fun c0 c1 _ c3 c4 c5 c6 c7 c8 c9 c10 c11 c12 c13 c14 c15 => ⟨c0, c1, x, c3, c4, c5, c6, c7, c8, c9, c10, c11, c12, c13, c14, c15⟩) t⟩
def ln3 : Lens (Nd β) β := ⟨fun t => t.c3, fun x t => Nd.rec (motive := fun _ => Nd β) (fun c0 c1 c2 _ c4 c5 c6 c7 c8 c9 c10 c11 c12 c13 c14 c15 => ⟨c0, c1, c2, x, c4, c5, c6, c7, c8, c9, c10, c11, c12, c13, c14, c15⟩) t⟩
def ln4 : Lens (Nd β) β := ⟨fun t => t.c4, fun x t => Nd.rec (motive := fun _ => Nd β) (fun c0 c1 c2 c3 _ c5 c6 c7 c8 c9 c10 c11 c12 c13 c14 c15 => ⟨c0, c1, c2, c3, x, c5, c6, c7, c8, c9, c10, c11, c12, c13, c14, c15⟩) t⟩
def ln5 : Lens (Nd β) β := ⟨fun t => t.c5, fun x t => Nd.rec (motive := fun _ => Nd β) (fun c0 c1 c2 c3 c4 _ c6 c7 c8 c9 c10 c11 c12 c13 c14 c15 => ⟨c0, c1, c2, c3, c4, x, c6, c7, c8, c9, c10, c11, c12, c13, c14, c15⟩) t⟩
def ln6 : Lens (Nd β) β := ⟨fun t => t.c6, fun x t => Nd.rec (motive := fun _ => Nd β) (fun c0 c1 c2 c3 c4 c5 _ c7 c8 c9 c10 c11 c12 c13 c14 c15 => ⟨c0, c1, c2, c3, c4, c5, x, c7, c8, c9, c10, c11, c12, c13, c14, c15⟩) t⟩
def ln7 : Lens (Nd β) β := ⟨fun t => t.c7, fun x t => Nd.rec (motive := fun _ => Nd β) (fun c0 c1 c2 c3 c4 c5 c6 _ c8 c9 c10 c11 c12 c13 c14 c15 => ⟨c0, c1, c2, c3, c4, c5, c6, x, c8, c9, c10, c11, c12, c13, c14, c15⟩) t⟩
def ln8 : Lens (Nd β) β := ⟨fun t => t.c8, fun x t => Nd.rec (motive := fun _ => Nd β) (fun c0 c1 c2 c3 c4 c5 c6 c7 _ c9 c10 c11 c12 c13 c14 c15 => ⟨c0, c1, c2, c3, c4, c5, c6, c7, x, c9, c10, c11, c12, c13, c14, c15⟩) t⟩
def ln9 : Lens (Nd β) β := ⟨fun t => t.c9, fun x t => Nd.rec (motive := fun _ => Nd β) (fun c0 c1 c2 c3 c4 c5 c6 c7 c8 _ c10 c11 c12 c13 c14 c15 => ⟨c0, c1, c2, c3, c4, c5, c6, c7, c8, x, c10, c11, c12, c13, c14, c15⟩) t⟩
def ln10 : Lens (Nd β) β := ⟨fun t => t.c10, fun x t => Nd.rec (motive := fun _ => Nd β) (fun c0 c1 c2 c3 c4 c5 c6 c7 c8 c9 _ c11 c12 c13 c14 c15 => ⟨c0, c1, c2, c3, c4, c5, c6, c7, c8, c9, x, c11, c12, c13, c14, c15⟩) t⟩
def ln11 : Lens (Nd β) β := ⟨fun t => t.c11, fun x t => Nd.rec (motive := fun _ => Nd β) (fun c0 c1 c2 c3 c4 c5 c6 c7 c8 c9 c10 _ c12 c13 c14 c15 => ⟨c0, c1, c2, c3, c4, c5, c6, c7, c8, c9, c10, x, c12, c13, c14, c15⟩) t⟩
def ln12 : Lens (Nd β) β := ⟨fun t => t.c12, fun x t => Nd.rec (motive := fun _ => Nd β) (fun c0 c1 c2 c3 c4 c5 c6 c7 c8 c9 c10 c11 _ c13 c14 c15 => ⟨c0, c1, c2, c3, c4, c5, c6, c7, c8, c9, c10, c11, x, c13, c14, c15⟩) t⟩
def ln13 : Lens (Nd β) β := ⟨fun t => t.c13, fun x t => Nd.rec (motive := fun _ => Nd β) (fun c0 c1 c2 c3 c4 c5 c6 c7 c8 c9 c10 c11 c12 _ c14 c15 => ⟨c0, c1, c2, c3, c4, c5, c6, c7, c8, c9, c10, c11, c12, x, c14, c15⟩) t⟩
def ln14 : Lens (Nd β) β := ⟨fun t => t.c14, fun x t => Nd.rec (motive := fun _ => Nd β) (fun c0 c1 c2 c3 c4 c5 c6 c7 c8 c9 c10 c11 c12 c13 _ c15 => ⟨c0, c1, c2, c3, c4, c5, c6, c7, c8, c9, c10, c11, c12, c13, x, c15⟩) t⟩
def ln15 : Lens (Nd β) β := ⟨fun t => t.c15, fun x t => Nd.rec (motive := fun _ => Nd β) (fun c0 c1 c2 c3 c4 c5 c6 c7 c8 c9 c10 c11 c12 c13 c14 _ => ⟨c0, c1, c2, c3, c4, c5, c6, c7, c8, c9, c10, c11, c12, c13, c14, x⟩) t⟩
def lens16 : Nat → Lens (Nd β) β
  | 0 => ln0
  | 1 => ln1
  | 2 => ln2
  | 3 => ln3
  | 4 => ln4
  | 5 => ln5
  | 6 => ln6
  | 7 => ln7
  | 8 => ln8
  | 9 => ln9
  | 10 => ln10
  | 11 => ln11
  | 12 => ln12
  | 13 => ln13
  | 14 => ln14
  | _ => ln15
theorem lens16_at (j k : Nat) (hj : j < 16) (hk : k < 16) (x : β) (t : Nd β) : (lens16 j).g ((lens16 k).s x t) = if j = k then x else (lens16 j).g t := by
  cases t
  rcases j with _|_|_|_|_|_|_|_|_|_|_|_|_|_|_|_|j <;> first | omega | (rcases k with _|_|_|_|_|_|_|_|_|_|_|_|_|_|_|_|k <;> first | rfl | omega)
theorem lens16_emp (d : Nat) (e : β) : (lens16 d).g ⟨e, e, e, e, e, e, e, e, e, e, e, e, e, e, e, e⟩ = e := by
  rcases d with _|_|_|_|_|_|_|_|_|_|_|_|_|_|_|_|d <;> rfl
/-- depth n -/
def NN (α : Type) : Nat → Type
  | 0 => Option α
  | n + 1 => Nd (NN α n)
def empN : (n : Nat) → NN α n
  | 0 => (none : Option α)
  | n + 1 => (⟨empN n, empN n, empN n, empN n, empN n, empN n, empN n, empN n, empN n, empN n, empN n, empN n, empN n, empN n, empN n, empN n⟩ : Nd (NN α n))
def lensN : (n : Nat) → Nat → Lens (NN α n) (Option α)
  | 0, _ => (⟨fun t => t, fun x _ => x⟩ : Lens (Option α) (Option α))
  | n + 1, k => Lens.comp (S := Nd (NN α n)) (lens16 (Nat.div k (Nat.pow 16 n))) (lensN n (Nat.mod k (Nat.pow 16 n)))
theorem lensN_emp : ∀ (n k : Nat), (lensN n k).g (empN n : NN α n) = none
  | 0, _ => rfl
  | n + 1, k => (congrArg (lensN n (k % 16 ^ n)).g (lens16_emp (k / 16 ^ n) (empN n))).trans (lensN_emp n _)
theorem lensN_at : ∀ (n j k : Nat) (x : Option α) (t : NN α n), j < 16 ^ n → k < 16 ^ n → (lensN n j).g ((lensN n k).s x t) = if j = k then x else (lensN n j).g t
  | 0, j, k, x, t, hj, hk => by
    have : j = k := by simp at hj hk; omega
    rw [if_pos this]; rfl
  | n + 1, j, k, x, t, hj, hk => by
    have key : ∀ t : Nd (NN α n), (lensN n (j % 16 ^ n)).g ((lens16 (j / 16 ^ n)).g ((lens16 (k / 16 ^ n)).s ((lensN n (k % 16 ^ n)).s x ((lens16 (k / 16 ^ n)).g t)) t)) = if j = k then x else (lensN n (j % 16 ^ n)).g ((lens16 (j / 16 ^ n)).g t) := by
     intro t
     have hp : 0 < 16 ^ n := Nat.pow_pos (by decide)
     have hj' : j / 16 ^ n < 16 := by rw [Nat.div_lt_iff_lt_mul hp, Nat.mul_comm]; simpa [Nat.pow_succ] using hj
     have hk' : k / 16 ^ n < 16 := by rw [Nat.div_lt_iff_lt_mul hp, Nat.mul_comm]; simpa [Nat.pow_succ] using hk
     rw [lens16_at _ _ hj' hk']
     by_cases hd : j / 16 ^ n = k / 16 ^ n
     · rw [if_pos hd, hd, lensN_at n (j % 16 ^ n) (k % 16 ^ n) x _ (Nat.mod_lt _ hp) (Nat.mod_lt _ hp)]
       have : (j % 16 ^ n = k % 16 ^ n) ↔ j = k := by
         constructor
         · intro h
           rw [← Nat.div_add_mod j (16 ^ n), ← Nat.div_add_mod k (16 ^ n), hd, h]
         · intro h; rw [h]
       by_cases h : j = k
       · rw [if_pos (this.2 h), if_pos h]
       · rw [if_neg (fun q => h (this.1 q)), if_neg h]
     · rw [if_neg hd, if_neg (fun q => hd (by rw [q]))]
    exact key t
end
noncomputable section
variable {α β : Type}
theorem lens16_comm (j k : Nat) (hj : j < 16) (hk : k < 16) (hn : j ≠ k) (x y : β) (t : Nd β) : (lens16 j).s x ((lens16 k).s y t) = (lens16 k).s y ((lens16 j).s x t) := by
  cases t
  rcases j with _|_|_|_|_|_|_|_|_|_|_|_|_|_|_|_|j <;> first | omega | (rcases k with _|_|_|_|_|_|_|_|_|_|_|_|_|_|_|_|k <;> first | rfl | omega)
theorem lens16_again (j : Nat) (x y : β) (t : Nd β) : (lens16 j).s x ((lens16 j).s y t) = (lens16 j).s x t := by
  cases t
  rcases j with _|_|_|_|_|_|_|_|_|_|_|_|_|_|_|_|j <;> rfl
theorem lens16_own (j : Nat) (x : β) (t : Nd β) : (lens16 j).g ((lens16 j).s x t) = x := by
  cases t
  rcases j with _|_|_|_|_|_|_|_|_|_|_|_|_|_|_|_|j <;> rfl
theorem lensN_comm : ∀ (n j k : Nat) (x y : Option α) (t : NN α n), j < 16 ^ n → k < 16 ^ n → j ≠ k → (lensN n j).s x ((lensN n k).s y t) = (lensN n k).s y ((lensN n j).s x t)
  | 0, j, k, x, y, t, hj, hk, hn => by
    exfalso; simp at hj hk; omega
  | n + 1, j, k, x, y, t, hj, hk, hn => by
    have hp : 0 < 16 ^ n := Nat.pow_pos (by decide)
    have hj' : j / 16 ^ n < 16 := by rw [Nat.div_lt_iff_lt_mul hp, Nat.mul_comm]; simpa [Nat.pow_succ] using hj
    have hk' : k / 16 ^ n < 16 := by rw [Nat.div_lt_iff_lt_mul hp, Nat.mul_comm]; simpa [Nat.pow_succ] using hk
    have key : ∀ t : Nd (NN α n), (lens16 (j / 16 ^ n)).s ((lensN n (j % 16 ^ n)).s x ((lens16 (j / 16 ^ n)).g ((lens16 (k / 16 ^ n)).s ((lensN n (k % 16 ^ n)).s y ((lens16 (k / 16 ^ n)).g t)) t))) ((lens16 (k / 16 ^ n)).s ((lensN n (k % 16 ^ n)).s y ((lens16 (k / 16 ^ n)).g t)) t)
        = (lens16 (k / 16 ^ n)).s ((lensN n (k % 16 ^ n)).s y ((lens16 (k / 16 ^ n)).g ((lens16 (j / 16 ^ n)).s ((lensN n (j % 16 ^ n)).s x ((lens16 (j / 16 ^ n)).g t)) t))) ((lens16 (j / 16 ^ n)).s ((lensN n (j % 16 ^ n)).s x ((lens16 (j / 16 ^ n)).g t)) t) := by
      intro t
      by_cases hd : j / 16 ^ n = k / 16 ^ n
      · rw [← hd, lens16_own, lens16_own, lens16_again, lens16_again]
        rw [lensN_comm n (j % 16 ^ n) (k % 16 ^ n) x y _ (Nat.mod_lt _ hp) (Nat.mod_lt _ hp) (fun q => hn (by rw [← Nat.div_add_mod j (16 ^ n), ← Nat.div_add_mod k (16 ^ n), hd, q]))]
      · rw [lens16_at _ _ hj' hk', if_neg hd, lens16_at _ _ hk' hj', if_neg (fun q => hd q.symm)]
        exact lens16_comm _ _ hj' hk' hd _ _ t
    exact key t
end
structure Tr (α : Type) where
  a : NN α 2
  b : NN α 4
  c : NN α 7
  r : Nat → Option α
namespace Tr
noncomputable section
variable {α : Type}
def emp : Tr α := ⟨empN 2, empN 4, empN 7, fun _ => none⟩
def la : Lens (Tr α) (NN α 2) := ⟨fun t => t.a, fun x t => Tr.rec (motive := fun _ => Tr α) (fun _ b c r => ⟨x, b, c, r⟩) t⟩
def lb : Lens (Tr α) (NN α 4) := ⟨fun t => t.b, fun x t => Tr.rec (motive := fun _ => Tr α) (fun a _ c r => ⟨a, x, c, r⟩) t⟩
def lc : Lens (Tr α) (NN α 7) := ⟨fun t => t.c, fun x t => Tr.rec (motive := fun _ => Tr α) (fun a b _ r => ⟨a, b, x, r⟩) t⟩
def lr (k : Nat) : Lens (Tr α) (Option α) := ⟨fun t => t.r k, fun x t => ⟨t.a, t.b, t.c, fun j => Bool.rec (motive := fun _ => Option α) (t.r j) x (Nat.beq j k)⟩⟩
/-- the place of number k -/
def lensK (k : Nat) : Lens (Tr α) (Option α) :=
  Bool.rec (motive := fun _ => Lens (Tr α) (Option α)) (Bool.rec (motive := fun _ => Lens (Tr α) (Option α)) (Bool.rec (motive := fun _ => Lens (Tr α) (Option α)) (lr k) (Lens.comp lc (lensN 7 k)) (Nat.blt k 268435456)) (Lens.comp lb (lensN 4 k)) (Nat.blt k 65536)) (Lens.comp la (lensN 2 k)) (Nat.blt k 256)
def get (t : Tr α) (k : Nat) : Option α := (lensK k).g t
def put (t : Tr α) (k : Nat) (x : Option α) : Tr α := (lensK k).s x t
def set (t : Tr α) (k : Nat) (x : α) : Tr α := t.put k (some x)

theorem beq_iff (a b : Nat) : (Nat.beq a b = true) = (a = b) := propext ⟨Nat.eq_of_beq_eq_true, fun h => by subst h; exact Nat.beq_refl a⟩
theorem blt_iff (a b : Nat) : (Nat.blt a b = true) = (a < b) := propext ⟨Nat.le_of_ble_eq_true, Nat.ble_eq_true_of_le⟩
theorem blt_t {j k : Nat} (h : j < k) : Nat.blt j k = true := (blt_iff j k).symm ▸ h
theorem blt_f {j k : Nat} (h : ¬ j < k) : Nat.blt j k = false := by
  cases q : Nat.blt j k
  · rfl
  · exact absurd ((blt_iff j k) ▸ q) h
theorem lensK_a {k : Nat} (h : k < 256) : (lensK k : Lens (Tr α) (Option α)) = Lens.comp la (lensN 2 k) := by
  unfold lensK; rw [blt_t h]
theorem lensK_b {k : Nat} (h : ¬ k < 256) (h' : k < 65536) : (lensK k : Lens (Tr α) (Option α)) = Lens.comp lb (lensN 4 k) := by
  unfold lensK; rw [blt_f h, blt_t h']
theorem lensK_c {k : Nat} (h : ¬ k < 256) (h' : ¬ k < 65536) (h2 : k < 268435456) : (lensK k : Lens (Tr α) (Option α)) = Lens.comp lc (lensN 7 k) := by
  unfold lensK; rw [blt_f h, blt_f h', blt_t h2]
theorem lensK_r {k : Nat} (h : ¬ k < 256) (h' : ¬ k < 65536) (h2 : ¬ k < 268435456) : (lensK k : Lens (Tr α) (Option α)) = lr k := by
  unfold lensK; rw [blt_f h, blt_f h', blt_f h2]
theorem get_e (k : Nat) : (emp : Tr α).get k = none := by
  unfold get
  by_cases h : k < 256
  · rw [lensK_a h]; exact lensN_emp 2 k
  by_cases h' : k < 65536
  · rw [lensK_b h h']; exact lensN_emp 4 k
  by_cases h2 : k < 268435456
  · rw [lensK_c h h' h2]; exact lensN_emp 7 k
  · rw [lensK_r h h' h2]; rfl
theorem get_put (t : Tr α) (k j : Nat) (x : Option α) : (t.put k x).get j = if j = k then x else t.get j := by
  obtain ⟨a, b, c, r⟩ := t
  unfold get put
  by_cases h : k < 256
  · rw [lensK_a h]
    by_cases g : j < 256
    · rw [lensK_a g]; exact lensN_at 2 j k x a g h
    rw [if_neg (by omega)]
    by_cases g' : j < 65536
    · rw [lensK_b g g']; rfl
    by_cases g2 : j < 268435456
    · rw [lensK_c g g' g2]; rfl
    · rw [lensK_r g g' g2]; rfl
  by_cases h' : k < 65536
  · rw [lensK_b h h']
    by_cases g : j < 256
    · rw [lensK_a g, if_neg (by omega)]; rfl
    by_cases g' : j < 65536
    · rw [lensK_b g g']; exact lensN_at 4 j k x b g' h'
    rw [if_neg (by omega)]
    by_cases g2 : j < 268435456
    · rw [lensK_c g g' g2]; rfl
    · rw [lensK_r g g' g2]; rfl
  by_cases h2 : k < 268435456
  · rw [lensK_c h h' h2]
    by_cases g : j < 256
    · rw [lensK_a g, if_neg (by omega)]; rfl
    by_cases g' : j < 65536
    · rw [lensK_b g g', if_neg (by omega)]; rfl
    by_cases g2 : j < 268435456
    · rw [lensK_c g g' g2]; exact lensN_at 7 j k x c g2 h2
    · rw [lensK_r g g' g2, if_neg (by omega)]; rfl
  · rw [lensK_r h h' h2]
    by_cases g : j < 256
    · rw [lensK_a g, if_neg (by omega)]; rfl
    by_cases g' : j < 65536
    · rw [lensK_b g g', if_neg (by omega)]; rfl
    by_cases g2 : j < 268435456
    · rw [lensK_c g g' g2, if_neg (by omega)]; rfl
    · rw [lensK_r g g' g2]
      show Bool.rec (motive := fun _ => Option α) (r j) x (Nat.beq j k) = _
      by_cases e : j = k
      · subst e; rw [Nat.beq_refl, if_pos rfl]
      · have : Nat.beq j k = false := by
          cases q : Nat.beq j k
          · rfl
          · exact absurd (show j = k from (beq_iff j k) ▸ q) e
        rw [this, if_neg e]; rfl
theorem get_set (t : Tr α) (k j : Nat) (x : α) : (t.set k x).get j = if j = k then some x else t.get j := get_put t k j (some x)
theorem put_comm (t : Tr α) {j k : Nat} (hn : j ≠ k) (x y : Option α) : (t.put j x).put k y = (t.put k y).put j x := by
  obtain ⟨a, b, c, r⟩ := t
  unfold put
  by_cases h : k < 256
  · rw [lensK_a h]
    by_cases g : j < 256
    · rw [lensK_a g]; exact congrArg (fun a => (⟨a, b, c, r⟩ : Tr α)) (lensN_comm 2 k j y x a h g hn.symm)
    by_cases g' : j < 65536
    · rw [lensK_b g g']; rfl
    by_cases g2 : j < 268435456
    · rw [lensK_c g g' g2]; rfl
    · rw [lensK_r g g' g2]; rfl
  by_cases h' : k < 65536
  · rw [lensK_b h h']
    by_cases g : j < 256
    · rw [lensK_a g]; rfl
    by_cases g' : j < 65536
    · rw [lensK_b g g']; exact congrArg (fun b => (⟨a, b, c, r⟩ : Tr α)) (lensN_comm 4 k j y x b h' g' hn.symm)
    by_cases g2 : j < 268435456
    · rw [lensK_c g g' g2]; rfl
    · rw [lensK_r g g' g2]; rfl
  by_cases h2 : k < 268435456
  · rw [lensK_c h h' h2]
    by_cases g : j < 256
    · rw [lensK_a g]; rfl
    by_cases g' : j < 65536
    · rw [lensK_b g g']; rfl
    by_cases g2 : j < 268435456
    · rw [lensK_c g g' g2]; exact congrArg (fun c => (⟨a, b, c, r⟩ : Tr α)) (lensN_comm 7 k j y x c h2 g2 hn.symm)
    · rw [lensK_r g g' g2]; rfl
  · rw [lensK_r h h' h2]
    by_cases g : j < 256
    · rw [lensK_a g]; rfl
    by_cases g' : j < 65536
    · rw [lensK_b g g']; rfl
    by_cases g2 : j < 268435456
    · rw [lensK_c g g' g2]; rfl
    · rw [lensK_r g g' g2]
      have : ∀ i, (Bool.rec (motive := fun _ => Option α) (Bool.rec (motive := fun _ => Option α) (r i) x (Nat.beq i j)) y (Nat.beq i k)) = Bool.rec (motive := fun _ => Option α) (Bool.rec (motive := fun _ => Option α) (r i) y (Nat.beq i k)) x (Nat.beq i j) := fun i => by
        cases h1 : Nat.beq i j <;> cases h2 : Nat.beq i k <;> first | rfl | (exfalso; exact hn (((beq_iff i j) ▸ h1 : i = j).symm.trans ((beq_iff i k) ▸ h2)))
      exact congrArg (fun r => (⟨a, b, c, r⟩ : Tr α)) (funext this)
/-- the same everywhere below 65536 -/
def fullN (v : Option α) : (n : Nat) → NN α n
  | 0 => v
  | n + 1 => (⟨fullN v n, fullN v n, fullN v n, fullN v n, fullN v n, fullN v n, fullN v n, fullN v n, fullN v n, fullN v n, fullN v n, fullN v n, fullN v n, fullN v n, fullN v n, fullN v n⟩ : Nd (NN α n))
def fill (v : α) : Tr α := ⟨fullN (some v) 2, fullN (some v) 4, empN 7, fun _ => none⟩
theorem lensN_full (v : Option α) : ∀ (n k : Nat), (lensN n k).g (fullN v n) = v
  | 0, _ => rfl
  | n + 1, k => (congrArg (lensN n (k % 16 ^ n)).g (lens16_emp (k / 16 ^ n) (fullN v n))).trans (lensN_full v n _)
theorem get_fill (v : α) {k : Nat} (hk : k < 65536) : (fill v).get k = some v := by
  unfold get
  by_cases h : k < 256
  · rw [lensK_a h]; exact lensN_full (some v) 2 k
  · rw [lensK_b h hk]; exact lensN_full (some v) 4 k
/-- a row of things, from place i on -/
def putAll (t : Tr α) : Nat → List α → Tr α
  | _, [] => t
  | i, x :: xs => (t.set i x).putAll (i + 1) xs
theorem get_putAll : ∀ (xs : List α) (t : Tr α) (i j : Nat), (t.putAll i xs).get j = if i ≤ j then (match xs[j - i]? with | some x => some x | none => t.get j) else t.get j := by
  intro xs
  induction xs with
  | nil => intro t i j; simp [putAll]
  | cons x xs ih =>
    intro t i j
    simp only [putAll, ih, get_set]
    by_cases h1 : i + 1 ≤ j
    · have h3 : j - i = (j - (i + 1)) + 1 := by omega
      have h4 : ¬ j = i := by omega
      have h5 : i ≤ j := by omega
      simp only [h1, h4, h5, if_true, if_false, h3, List.getElem?_cons_succ]
    · by_cases h2 : j = i
      · subst h2
        simp [h1]
      · have h5 : ¬ i ≤ j := by omega
        simp only [h1, h2, h5, if_false]
/-- the things at i .. i + m -/
def row (t : Tr α) : Nat → Nat → Option (List α)
  | _, 0 => some []
  | i, m + 1 => match t.get i with
    | none => none
    | some x => match t.row (i + 1) m with
      | none => none
      | some xs => some (x :: xs)
theorem row_get {t : Tr α} : ∀ {m i : Nat} {xs : List α}, t.row i m = some xs → xs.length = m ∧ ∀ j, j < m → t.get (i + j) = xs[j]? := by
  intro m
  induction m with
  | zero => intro i xs h; simp [row] at h; subst h; exact ⟨rfl, fun j hj => by omega⟩
  | succ m ih =>
    intro i xs h
    simp only [row] at h
    split at h
    · cases h
    · rename_i x hx
      split at h
      · cases h
      · rename_i ys hys
        obtain rfl := Option.some.inj h
        obtain ⟨h1, h2⟩ := ih hys
        refine ⟨by simp [h1], fun j hj => ?_⟩
        cases j with
        | zero => simpa using hx
        | succ j =>
          rw [List.getElem?_cons_succ, ← h2 j (by omega)]
          congr 1; omega
end
end Tr
end Go.Proofs.YtkgmpkoamicheaaGreatDoor.M
