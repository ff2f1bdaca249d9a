/- A struct stored whole, in one step: the world behind it is a letter. And: a row of items with one more. -/
import Derived.Test.YtpjaopcgoaannaaGreatDoorN18
namespace Go.Proofs.YtpjaopcgoaannaaGreatDoor
open Go.RowKit Go.Lib
open Hb

theorem run_store_row {P : Program} {w : World} {b size : Nat} {T' : TypeId} {xs : List Value} (h : RowI w b T' size xs) (T : TypeId) (cs : List Value) (hz : (Go.sizeOf T).run P w = .ok cs.length w) (hl : xs.length = cs.length) (hs : xs.length = size) (h1 : ∀ u ∈ cs, u.oneCell' = true) :
    ∃ w', (Instr.storeAt T (.pointer (some ⟨b, 0, none⟩)) (.agg cs.toArray)).run P w = .ok () w' ∧ RowI w' b T' size cs ∧ w.grownBy w' (some b) ∧ w'.heap.size = w.heap.size := by
  obtain ⟨w', g1, g2, g3, g4⟩ := h.put P 0 cs (Nat.zero_le _) (by omega) h1
  refine ⟨w', ?_, ?_, g3, g4⟩
  · simp [Instr.storeAt, Instr.sureAddr, storeVar, hz, Value.cells, g1, Result.andThen]
  · rw [List.take_zero, List.nil_append, Nat.zero_add, List.drop_eq_nil_of_le (by omega), List.append_nil] at g2
    exact g2
theorem wpList_store_run {P : Program} (w : World) {ops : Array Oper} {rest : List Oper} {o : Oper} {a : Act} {Q : Exit → Act → World → Prop} (hgd : o.guard = none) (T : TypeId) (p v : Operand)
    (ho : o.op = Op.store T p v) (x y : Value) (hp : a.eval p = x) (hv : a.eval v = y) {w' : World} (hr : (Instr.storeAt T x y).run P w = .ok () w') (h : wpList P ops Q rest (a.put o.dst undef) w') : wpList P ops Q (o :: rest) a w :=
  wpList_plain hgd fun _ hK => by
    unfold Oper.wp execOp
    simp only [ho, hp, hv, Sem.run_bind, Sem.run_pure, Result.andThen_ok, hr]
    exact hK _ _ h
theorem wp_store_run {P : Program} (w : World) {o : Oper} {a : Act} {K : Act → World → Prop} {Q : Exit → Act → World → Prop} (T : TypeId) (p v : Operand)
    (ho : o.op = Op.store T p v) (x y : Value) (hp : a.eval p = x) (hv : a.eval v = y) {w' : World} (hr : (Instr.storeAt T x y).run P w = .ok () w') (h : K (a.put o.dst undef) w') : o.wp P a w K Q := by
  unfold Oper.wp execOp
  simp only [ho, hp, hv, Sem.run_bind, Sem.run_pure, Result.andThen_ok, hr]
  exact h
theorem sizeNode : ∀ w, (Go.sizeOf 27).run Tryz.prog w = .ok 8 w := Tryz.sizeOf27
/-- a node's cells, each one cell -/
theorem node_one (f0 : ByteArray) (f1 : Bool) (f2 f3 : Int) (a b c : Value) (f7 : ByteArray) (ha : a.oneCell' = true) (hb : b.oneCell' = true) (hc : c.oneCell' = true) : ∀ u ∈ ([.string f0, .bool f1, .int .u8 f2, .int .i64 f3, a, b, c, .string f7] : List Value), u.oneCell' = true := by
  intro u hu
  simp only [List.mem_cons, List.not_mem_nil, or_false] at hu
  rcases hu with rfl | rfl | rfl | rfl | rfl | rfl | rfl | rfl <;> first | rfl | assumption

theorem run_store_one {P : Program} {w : World} {b size : Nat} {T' : TypeId} {xs : List Value} (h : RowI w b T' size xs) (T : TypeId) (j : Nat) (v : Value) (hz : (Go.sizeOf T).run P w = .ok 1 w) (hj : j < xs.length) (hc : v.cells = #[v]) (h1 : v.oneCell' = true) :
    ∃ w', (Instr.storeAt T (.pointer (some ⟨b, j, none⟩)) v).run P w = .ok () w' ∧ RowI w' b T' size (xs.set j v) ∧ w.grownBy w' (some b) ∧ w'.heap.size = w.heap.size := by
  have hls : xs.length ≤ size := by
    obtain ⟨ys, _, h2⟩ := h
    rw [List.length_append] at h2
    omega
  obtain ⟨w', g1, g2, g3, g4⟩ := h.put P j [v] (Nat.le_of_lt hj) (by show j + 1 ≤ size; omega) (by intro u hu; rw [List.mem_singleton.1 hu]; exact h1)
  refine ⟨w', ?_, ?_, g3, g4⟩
  · simp [Instr.storeAt, Instr.sureAddr, storeVar, hz, hc, g1, Result.andThen]
  · rw [List.set_eq_take_append_cons_drop, if_pos hj]
    simpa using g2
theorem SlE.empty {α : Type} {enc : α → List Value} {k : Nat} {w w' : World} {v : Value} (h : SlE enc k w v []) : SlE enc k w' v [] := by
  obtain ⟨a, c, e, hc, _⟩ := h
  exact ⟨a, c, e, hc, .inl rfl⟩
theorem OwE.gone {α : Type} {enc : α → List Value} {k base : Nat} {T : TypeId} {w w' : World} {v : Value} {l : List α} (h : OwE enc k w base T v l) {b : Nat} (hg : w.grownBy w' (some b)) (hne : v.ownBlock ≠ some b) : OwE enc k w' base T v l := World.ownsRow.kept h hg (.inr hne)
theorem RowI.gone {w w' : World} {g size b : Nat} {T : TypeId} {xs : List Value} (h : RowI w g T size xs) (hg : w.grownBy w' (some b)) (hne : g ≠ b) : RowI w' g T size xs := h.kept (hg.block g h.lt (fun e => hne (Option.some.inj e)))
theorem below_gone {B : Nat} {a w w' : World} {b : Nat} (h : Below B a w) (hg : w.grownBy w' (some b)) (hB : B ≤ w.heap.size) (hb : B ≤ b) : Below B a w' := h.grown hg hB (fun k e => by cases e; exact hb)
theorem RowI.goneR {w w' : World} {g size : Nat} {T : TypeId} {xs : List Value} {r : Option Nat} (h : RowI w g T size xs) (hg : w.grownBy w' r) (hne : r ≠ some g) : RowI w' g T size xs := h.kept (hg.block g h.lt (fun e => hne e.symm))
theorem OwE.goneR {α : Type} {enc : α → List Value} {k base : Nat} {T : TypeId} {w w' : World} {v : Value} {l : List α} {r : Option Nat} (h : OwE enc k w base T v l) (hg : w.grownBy w' r) (hne : v.ownBlock = none ∨ v.ownBlock ≠ r) : OwE enc k w' base T v l := World.ownsRow.kept h hg hne
theorem OwE.apart {α β : Type} {enc : α → List Value} {enc' : β → List Value} {k k' base base' : Nat} {T T' : TypeId} {w : World} {v v' : Value} {l : List α} {l' : List β} (h : OwE enc k w base T v l) (h' : OwE enc' k' w base' T' v' l') (ht : T ≠ T') : v.ownBlock = none ∨ v.ownBlock ≠ v'.ownBlock := by
  cases hv : v.ownBlock with
  | none => exact .inl rfl
  | some g =>
    right
    intro e
    rcases h.2 with ⟨rfl, _⟩ | ⟨g1, cap, cur, rfl, _, hg1, _⟩
    · cases hv
    rcases h'.2 with ⟨rfl, _⟩ | ⟨g2, cap2, cur2, rfl, _, hg2, _⟩
    · cases e
    · obtain rfl : g1 = g := by simpa [Value.ownBlock] using hv
      obtain rfl : g2 = g1 := by simpa [Value.ownBlock] using e.symm
      rw [hg1] at hg2
      cases hg2
      exact ht rfl
theorem below_goneR {B base : Nat} {a w w' : World} {v : Value} {α : Type} {enc : α → List Value} {k : Nat} {T : TypeId} {l : List α} (h : Below B a w) (hg : w.grownBy w' v.ownBlock) (ho : OwE enc k w base T v l) (hB : B ≤ w.heap.size) (hb : B ≤ base) : Below B a w' := h.grown hg hB (fun q e => Nat.le_trans hb (World.ownsRow.lt ho q e).1)
end Go.Proofs.YtpjaopcgoaannaaGreatDoor
