/- The quick way's answers are the program's: loads, stores, new variables. No program in it. -/
import Derived.Test.YtkgmpkoamicheaaGreatDoorMe
import Derived.Laws.CopyRow
namespace Go.Proofs.YtkgmpkoamicheaaGreatDoor.M

theorem VR.ptr_inv {m : Mu} {b o : Nat} {v : Value} (h : VR m (.pointer (some ⟨b, o, none⟩)) v) : ∃ l, m b = some l ∧ v = .pointer (some ⟨l.blk, l.off + o, none⟩) := by
  cases h
  exact ⟨_, ‹_›, rfl⟩

/-- a block's cells, whether or not an append made the row -/
theorem BR.cells {m : Mu} {w : World} {l : Loc} {n : Nat} {t : Tr Value} {e : TypeId} {g : Option Nat} (h : BR m w l (.cells n t e g)) : ∃ cs, CellsAt m w l n t e cs := by
  cases g with
  | none => exact ⟨_, h.2.choose_spec.1⟩
  | some sz =>
    obtain ⟨f, cs, _, hc, _⟩ := h
    exact ⟨cs, hc⟩
theorem CellsAt.cell {m : Mu} {w : World} {l : Loc} {n : Nat} {t : Tr Value} {e : TypeId} {cs : Array Value} (h : CellsAt m w l n t e cs) {i : Nat} {v : Value} (hi : i < n) (hv : t.get i = some v) :
    ∃ v', w.cell? ⟨l.blk, l.off + i, none⟩ = some v' ∧ VR m v v' ∧ one v = true := by
  obtain ⟨u, v', h1, h2, h3, h4⟩ := h.2.2 i hi
  rw [hv] at h1
  obtain rfl := Option.some.inj h1
  obtain ⟨fz, hh, _⟩ := h.1
  exact ⟨v', by simp [World.cell?, hh, h2], h3, h4⟩
theorem add_none (b o j : Nat) : (⟨b, o, none⟩ : Addr).add j = ⟨b, o + j, none⟩ := by
  unfold Addr.add
  split
  · simp_all
  · rfl
/-- a row of cells read one by one -/
theorem CellsAt.row {m : Mu} {w : World} {l : Loc} {n : Nat} {t : Tr Value} {e : TypeId} {cs : Array Value} (h : CellsAt m w l n t e cs) : ∀ {k o : Nat} {vs : List Value}, o + k ≤ n → t.row o k = some vs →
    ∃ vs', VRs m vs vs' ∧ vs'.length = k ∧ (∀ v ∈ vs, one v = true) ∧ ∀ j v, vs'[j]? = some v → w.cell? ⟨l.blk, l.off + o + j, none⟩ = some v := by
  intro k
  induction k with
  | zero =>
    intro o vs _ hr
    simp [Tr.row] at hr
    subst hr
    exact ⟨[], .nil m, rfl, by simp, by simp⟩
  | succ k ih =>
    intro o vs ho hr
    simp only [Tr.row] at hr
    split at hr
    · cases hr
    · rename_i x hx
      split at hr
      · cases hr
      · rename_i ys hys
        obtain rfl := Option.some.inj hr
        obtain ⟨x', h1, h2, h3⟩ := h.cell (i := o) (by omega) hx
        obtain ⟨ys', h4, h5, h6, h7⟩ := ih (o := o + 1) (by omega) hys
        refine ⟨x' :: ys', .cons h2 h4, by simp [h5], fun v hv => ?_, fun j v hj => ?_⟩
        · cases hv with
          | head => exact h3
          | tail _ hv => exact h6 v hv
        · cases j with
          | zero => simp at hj; subst hj; exact h1
          | succ j =>
            have := h7 j v (by simpa using hj)
            rwa [show l.off + (o + 1) + j = l.off + o + (j + 1) by omega] at this

section
variable {P : Program} {T : Tab} {base : Nat} {m : Mu} {H : AHeap} {w : World}

theorem R.at (h : R base m H w) {b : Nat} {B : ABlk} {l : Loc} (hb : H.get b = some B) (hl : m b = some l) : base ≤ l.blk ∧ BR m w l B := by
  obtain ⟨l', h1, h2, h3⟩ := h.live b B hb
  rw [hl] at h1
  obtain rfl := Option.some.inj h1
  exact ⟨h2, h3⟩

theorem load_ok (hT : TabOk P T) (hR : R base m H w) {t : TypeId} {p p' v : Value} (hp : VR m p p') (h : aload T t p H = some v) :
    ∃ v', (Instr.loadAt t p').run P w = .ok v' w ∧ VR m v v' := by
  unfold aload at h
  split at h
  case h_2 => cases h
  rename_i b o r hr
  obtain ⟨l, hl, rfl⟩ := hp.ptr_inv
  split at h
  case h_2 => cases h
  rename_i n tr e g hb
  obtain ⟨cs, hc⟩ := (hR.at hb hl).2.cells
  have hagg := hT.agg hr w
  have hsz := hT.size hr w
  simp only [Instr.loadAt, Instr.sureAddr, loadVar, Sem.run_bind, Sem.run_pure, Result.andThen_ok, hagg]
  split at h
  · rename_i ha
    split at h
    · rename_i ho
      split at h
      · rename_i vs hvs
        obtain rfl := Option.some.inj h
        obtain ⟨vs', h1, h2, _, h3⟩ := hc.row ho hvs
        have hrun := run_loadCells_list (P := P) (w := w) ⟨l.blk, l.off + o, none⟩ vs' (fun j v hj => by rw [add_none]; exact h3 j v hj)
        rw [h2] at hrun
        exact ⟨.agg ⟨vs'⟩, by simp [ha, hsz, hrun], VR.agg' h1⟩
      · cases h
    · cases h
  · rename_i ha
    split at h
    · rename_i ho
      obtain ⟨v', h1, h2, _⟩ := hc.cell ho h
      exact ⟨v', by simp [ha, h1], h2⟩
    · cases h

theorem alloc_old (w : World) (o : Obj) (i : Nat) (hi : i < w.heap.size) : (w.alloc o).heap[i]? = w.heap[i]? := RowKit.Below.heap_alloc w o i hi
theorem alloc_new (w : World) (o : Obj) : (w.alloc o).heap[w.heap.size]? = some o := by
  show (w.heap.push o)[w.heap.size]? = some o
  simp
theorem alloc_size (w : World) (o : Obj) : (w.alloc o).heap.size = w.heap.size + 1 := by
  show (w.heap.push o).size = _
  simp
/-- a new block -/
theorem R.new' (h : R base m H w) (hb : base ≤ w.heap.size) {id : Nat} (hid : m id = none) {w' : World} (hs : w'.os = w.os ∧ w'.tape = w.tape ∧ w'.output = w.output ∧ w.heap.size ≤ w'.heap.size)
    (hold : ∀ i, i < w.heap.size → w'.heap[i]? = w.heap[i]?) {l : Loc} {B : ABlk} (hl : l.blk = w.heap.size) (hB : BR (m.put id l) w' l B) : Stp base m H w (m.put id l) (H.put id (some B)) w' (· = id) := by
  have hle := Mu.le_put (l := l) hid
  refine ⟨Ext.put hid, ⟨fun b C hb' => ?_, fun b c C D k k' h1 h2 h3 h4 h5 => ?_⟩, ⟨hs.1, hs.2.1, hs.2.2.1, hs.2.2.2, fun i hi _ => hold i hi⟩, fun b C k h1 h2 => ?_⟩
  · rw [AHeap.get_put] at hb'
    split at hb'
    · rename_i e; subst e
      obtain rfl := Option.some.inj hb'
      exact ⟨l, Mu.put_at _ _ _, by omega, hB⟩
    · obtain ⟨k, hk, h1, h2⟩ := h.live b C hb'
      exact ⟨k, hle _ _ hk, h1, (h2.mono hle).same (hold _ h2.lt)⟩
  · rw [AHeap.get_put] at h1 h2
    have other : ∀ {b : Nat} {C : ABlk} {k : Loc}, b ≠ id → H.get b = some C → (m.put id l) b = some k → k.blk < w.heap.size := fun {b C k} hne hC hk => by
      have : m b = some k := by simpa [Mu.put, hne] using hk
      exact (h.at hC this).2.lt
    by_cases e1 : b = id <;> by_cases e2 : c = id
    · rw [e1, e2]
    · rw [if_neg e2] at h2
      have := other e2 h2 h4
      subst e1
      rw [Mu.put_at] at h3
      obtain rfl := Option.some.inj h3
      omega
    · rw [if_neg e1] at h1
      have := other e1 h1 h3
      subst e2
      rw [Mu.put_at] at h4
      obtain rfl := Option.some.inj h4
      omega
    · rw [if_neg e1] at h1
      rw [if_neg e2] at h2
      have h3' : m b = some k := by simpa [Mu.put, e1] using h3
      have h4' : m c = some k' := by simpa [Mu.put, e2] using h4
      exact h.inj b c C D k k' h1 h2 h3' h4' h5
  · rw [AHeap.get_put] at h1
    split at h1
    · rename_i e; subst e
      rw [Mu.put_at] at h2
      obtain rfl := Option.some.inj h2
      exact .inl (by omega)
    · rename_i e
      have h2' : m b = some k := by simpa [Mu.put, e] using h2
      exact .inr ⟨b, C, k, h1, h2', rfl⟩

theorem R.new (h : R base m H w) (hb : base ≤ w.heap.size) {id : Nat} (hid : m id = none) {o : Obj} {l : Loc} {B : ABlk} (hl : l.blk = w.heap.size) (hB : BR (m.put id l) (w.alloc o) l B) :
    Stp base m H w (m.put id l) (H.put id (some B)) (w.alloc o) (· = id) :=
  h.new' (w' := w.alloc o) hb hid ⟨rfl, rfl, rfl, by rw [alloc_size]; omega⟩ (fun i hi => alloc_old w o i hi) hl hB
theorem allOne_mem : ∀ {l : List Value}, allOne l = true → ∀ v ∈ l, one v = true
  | [], _, v, h => by cases h
  | u :: l, h, v, hv => by
    simp only [allOne, Bool.and_eq_true] at h
    cases hv with
    | head => exact h.1
    | tail _ hv => exact allOne_mem h.2 v hv
theorem VRs.one {m : Mu} {x y : List Value} (h : VRs m x y) (hx : ∀ v ∈ x, M.one v = true) : ∀ v ∈ y, v.oneCell' = true := by
  intro v hv
  obtain ⟨i, hi⟩ := List.getElem?_of_mem hv
  have hlt : i < x.length := by rw [h.1]; exact (List.getElem?_eq_some_iff.1 hi).1
  obtain ⟨v', h1, h2⟩ := h.2 i x[i] (by simp [hlt])
  rw [hi] at h1
  obtain rfl := Option.some.inj h1
  rw [one_eq, h2.one_eq]
  exact hx _ (List.getElem_mem hlt)
theorem VR.cellsL {m : Mu} {v v' : Value} (h : VR m v v') : VRs m (cellsL v) v'.cells.toList := by
  cases h
  case agg h1 h2 => exact VRs.of_arr h1 h2
  all_goals exact .cons (by first | exact .bool _ | exact .int _ _ | exact .string _ | exact .nilp | exact .ptr ‹_› | exact .nils _ _ | exact .sl ‹_› ‹_› | exact .slg ‹_› ‹_› ‹_› ‹_› ‹_› | exact .nilm | exact .map ‹_› | exact .nilf | exact .yld ‹_› | exact .func ‹_› ‹_› ‹_› ‹_› ‹_› | exact .nili | exact .iface ‹_› | exact .tuple ‹_› ‹_›) (.nil m)

theorem new_row (hR : R base m H w) (hb : base ≤ w.heap.size) {id : Nat} (hid : m id = none) {e : TypeId} {vs : List Value} {vs' : Array Value} (hv : VRs m vs vs'.toList) (h1 : ∀ v ∈ vs, one v = true) :
    Stp base m H w (m.put id ⟨w.heap.size, 0, none⟩) (H.put id (some (.cells vs.length (Tr.emp.putAll 0 vs) e none))) (w.alloc (.cells vs' e)) (· = id) := by
  refine hR.new hb hid rfl ⟨rfl, vs', ⟨⟨(0, 0), alloc_new _ _, fun i _ => by simp⟩, by have := hv.1; simp at this ⊢; omega, fun i hi => ?_⟩, rfl, by have := hv.1; simpa using this.symm⟩
  obtain ⟨v', h2, h3⟩ := hv.2 i vs[i] (by simp [hi])
  refine ⟨vs[i], v', ?_, by simpa using h2, h3.mono (Mu.le_put hid), h1 _ (List.getElem_mem hi)⟩
  rw [Tr.get_putAll]
  simp [hi]
theorem anew_ok (hR : R base m H w) (hb : base ≤ w.heap.size) {id : Nat} (hid : m id = none) {e : TypeId} {v v' : Value} (hv : VR m v v') {H1 : AHeap} (h : anew e (cellsL v) id H = some H1) :
    ∃ w', (newVar e v').run P w = .ok ⟨w.heap.size, 0, none⟩ w' ∧ Stp base m H w (m.put id ⟨w.heap.size, 0, none⟩) H1 w' (· = id) := by
  unfold anew at h
  split at h
  · rename_i h1
    obtain rfl := Option.some.inj h
    exact ⟨w.alloc (.cells v'.cells e), by simp [newVar, newRow], new_row hR hb hid hv.cellsL (allOne_mem h1)⟩
  · cases h
theorem CellsAt.retree {m : Mu} {w : World} {l : Loc} {n : Nat} {t t' : Tr Value} {e : TypeId} {cs : Array Value} (h : CellsAt m w l n t e cs) (ht : ∀ i, i < n → t'.get i = t.get i) : CellsAt m w l n t' e cs :=
  ⟨h.1, h.2.1, fun i hi => let ⟨v, v', a, b, c, d⟩ := h.2.2 i hi; ⟨v, v', (ht i hi).trans a, b, c, d⟩⟩
theorem BR.retree {m : Mu} {w : World} {l : Loc} {n : Nat} {t t' : Tr Value} {e : TypeId} (ht : ∀ i, i < n → t'.get i = t.get i) : ∀ {g : Option Nat}, BR m w l (.cells n t e g) → BR m w l (.cells n t' e g)
  | none, ⟨hf, cs, h, ho, hs⟩ => ⟨hf, cs, h.retree ht, ho, hs⟩
  | some _, ⟨e, cs, hf, h, h1, h2⟩ => ⟨e, cs, hf, h.retree ht, h1, h2⟩
/-- only the cells of a row count, not the tree -/
theorem Stp.retree {m' : Mu} {w' : World} {H1 : AHeap} {N : Nat → Prop} {id n : Nat} {t t' : Tr Value} {e : TypeId} {g : Option Nat} (h : Stp base m H w m' (H1.put id (some (.cells n t e g))) w' N) (ht : ∀ i, i < n → t'.get i = t.get i) :
    Stp base m H w m' (H1.put id (some (.cells n t' e g))) w' N := by
  have up : ∀ {b B}, (H1.put id (some (.cells n t' e g))).get b = some B → ∃ B', (H1.put id (some (.cells n t e g))).get b = some B' ∧ ∀ l, BR m' w' l B' → BR m' w' l B := fun {b B} hb => by
    rw [AHeap.get_put] at hb ⊢
    split at hb
    · rename_i e; subst e
      obtain rfl := Option.some.inj hb
      exact ⟨_, if_pos rfl, fun l hl => hl.retree ht⟩
    · rename_i e; exact ⟨B, by rw [if_neg e]; exact hb, fun l hl => hl⟩
  refine ⟨h.ext, ⟨fun b B hb => ?_, fun b c B C l k h1 h2 h3 h4 h5 => ?_⟩, h.fr, fun b B l hb hl => ?_⟩
  · obtain ⟨B', h1, h2⟩ := up hb
    obtain ⟨l, h3, h4, h5⟩ := h.rel.live b B' h1
    exact ⟨l, h3, h4, h2 l h5⟩
  · obtain ⟨B', k1, _⟩ := up h1
    obtain ⟨C', k2, _⟩ := up h2
    exact h.rel.inj b c B' C' l k k1 k2 h3 h4 h5
  · obtain ⟨B', k1, _⟩ := up hb
    exact h.bk b B' l k1 hl
theorem CellsAt.row_some {m : Mu} {w : World} {l : Loc} {n : Nat} {t : Tr Value} {e : TypeId} {cs : Array Value} (h : CellsAt m w l n t e cs) : ∀ {k o : Nat}, o + k ≤ n → ∃ vs, t.row o k = some vs ∧ allOne vs = true ∧ vs.length = k ∧ ∀ j, j < k → t.get (o + j) = vs[j]?
  | 0, o, _ => ⟨[], rfl, rfl, rfl, fun j hj => by omega⟩
  | k + 1, o, ho => by
    obtain ⟨v, v', h1, _, _, h4⟩ := h.2.2 o (by omega)
    obtain ⟨vs, g1, g2, g3, g4⟩ := h.row_some (k := k) (o := o + 1) (by omega)
    refine ⟨v :: vs, by simp [Tr.row, h1, g1], by simp [allOne, h4, g2], by simp [g3], fun j hj => ?_⟩
    cases j with
    | zero => simpa using h1
    | succ j =>
      rw [List.getElem?_cons_succ, ← g4 j (by omega)]
      congr 1; omega
theorem repCells_mem {v : Value} : ∀ {n : Nat} {l : List Value}, v ∈ repCells n l → v ∈ l
  | 0, l, h => by simp [repCells] at h
  | n + 1, l, h => by
    simp only [repCells, List.mem_append] at h
    exact h.elim id fun h => repCells_mem h
theorem repCells_len {l : List Value} : ∀ {n : Nat}, (repCells n l).length = n * l.length
  | 0 => by simp [repCells]
  | n + 1 => by simp [repCells, repCells_len (n := n), Nat.add_mul, Nat.add_comm]
theorem sameInt_mem {k : IntKind} {n : Int} : ∀ {l : List Value}, sameInt k n l = true → ∀ v ∈ l, v = .int k n
  | [], _, v, hv => by cases hv
  | x :: l, h, v, hv => by
    cases x <;> simp only [sameInt, Bool.and_eq_true, decide_eq_true_eq, Bool.false_eq_true] at h
    obtain ⟨⟨rfl, rfl⟩, h2⟩ := h
    cases hv with
    | head => rfl
    | tail _ hv => exact sameInt_mem h2 v hv
theorem zeroTree_get (m : Nat) (l : List Value) (i : Nat) (hi : i < m * l.length) : (zeroTree m l).get i = (Tr.emp.putAll 0 (repCells m l)).get i := by
  unfold zeroTree
  split
  · rename_i k n r
    split
    · rename_i hg
      simp only [Bool.and_eq_true] at hg
      have hle := Nat.le_of_ble_eq_true hg.2
      simp only [List.length_cons] at hi
      rw [Tr.get_fill _ (by omega), Tr.get_putAll, if_pos (Nat.zero_le _), Nat.sub_zero]
      have hlen : i < (repCells m (Value.int k n :: r)).length := by rw [repCells_len]; simpa using hi
      rw [List.getElem?_eq_getElem hlen]
      have := repCells_mem (List.getElem_mem hlen)
      simp only
      congr 1
      rcases List.mem_cons.1 this with q | q
      · exact q.symm
      · exact (sameInt_mem hg.1 _ q).symm
    · rfl
  · rfl
end
end Go.Proofs.YtkgmpkoamicheaaGreatDoor.M
