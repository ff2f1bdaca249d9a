/- Values and memory, seen apart from where the blocks lie, how much a row may still grow, and what the tape says: the relation between the two. No program in it. -/
import Derived.Test.YtkgmpkoamicheaaGreatDoorMa
import Derived.Below
import Derived.Laws.Sem
import Derived.MapKept
namespace Go.Proofs.YtkgmpkoamicheaaGreatDoor.M

structure Loc where
  blk : Nat
  off : Nat
  fin : Option (Nat × Nat)   -- a row that an append made: an element's cells, where the row ends
abbrev Mu := Nat → Option Loc
def Mu.le (m m' : Mu) : Prop := ∀ i l, m i = some l → m' i = some l
theorem Mu.le_refl (m : Mu) : m.le m := fun _ _ h => h
theorem Mu.le_trans {a b c : Mu} (h : a.le b) (k : b.le c) : a.le c := fun i l hi => k i l (h i l hi)
def Mu.put (m : Mu) (i : Nat) (l : Loc) : Mu := fun j => if j = i then some l else m j
theorem Mu.le_put {m : Mu} {i : Nat} {l : Loc} (h : m i = none) : m.le (m.put i l) := fun j k hj => by
  unfold Mu.put
  split
  · rename_i e; subst e; rw [h] at hj; cases hj
  · exact hj
theorem Mu.put_at (m : Mu) (i : Nat) (l : Loc) : m.put i l i = some l := by simp [Mu.put]

inductive VR (m : Mu) : Value → Value → Prop
  | bool (b : Bool) : VR m (.bool b) (.bool b)
  | int (k : IntKind) (n : Int) : VR m (.int k n) (.int k n)
  | string (s : ByteArray) : VR m (.string s) (.string s)
  | nilp : VR m (.pointer none) (.pointer none)
  | ptr {b o : Nat} {l : Loc} (h : m b = some l) : VR m (.pointer (some ⟨b, o, none⟩)) (.pointer (some ⟨l.blk, l.off + o, none⟩))
  | nils (n c : Nat) : VR m (.slice none n c) (.slice none n c)
  | sl {b o n c : Nat} {l : Loc} (h : m b = some l) (hx : l.fin = none) : VR m (.slice (some ⟨b, o, none⟩) n c) (.slice (some ⟨l.blk, l.off + o, none⟩) n c)
  | slg {b o n c o' c' sz e : Nat} {l : Loc} (h : m b = some l) (hx : l.fin = some (sz, e)) (hn : n ≤ c) (hc : c ≤ c') (hz : c' = 0 ∨ (o' = l.off + o ∧ o' + c' * sz ≤ e)) :
      VR m (.slice (some ⟨b, o, none⟩) n c) (.slice (some ⟨l.blk, o', none⟩) n c')
  | nilm : VR m (.map none) (.map none)
  | map {b : Nat} {l : Loc} (h : m b = some l) : VR m (.map (some b)) (.map (some l.blk))
  | nilf : VR m .nilFunc .nilFunc
  | func {fn : Fn} {x x' y y' : Array Value} (hf : ∀ l, fn ≠ .yield l) (h1 : x.size = x'.size) (h2 : ∀ i (a : i < x.size) (b : i < x'.size), VR m x[i] x'[i]) (h3 : y.size = y'.size) (h4 : ∀ i (a : i < y.size) (b : i < y'.size), VR m y[i] y'[i]) :
      VR m (.func fn x y) (.func fn x' y')
  | yld {b : Nat} {l : Loc} (h : m b = some l) : VR m (.func (.yield b) #[] #[]) (.func (.yield l.blk) #[] #[])
  | nili : VR m .nilIface .nilIface
  | iface {t : TypeId} {v v' : Value} (h : VR m v v') : VR m (.iface t v) (.iface t v')
  | agg {x x' : Array Value} (h1 : x.size = x'.size) (h2 : ∀ i (a : i < x.size) (b : i < x'.size), VR m x[i] x'[i]) : VR m (.agg x) (.agg x')
  | tuple {x x' : Array Value} (h1 : x.size = x'.size) (h2 : ∀ i (a : i < x.size) (b : i < x'.size), VR m x[i] x'[i]) : VR m (.tuple x) (.tuple x')

theorem VR.mono {m m' : Mu} (hm : m.le m') {v v' : Value} (h : VR m v v') : VR m' v v' := by
  induction h with
  | bool b => exact .bool b
  | int k n => exact .int k n
  | string s => exact .string s
  | nilp => exact .nilp
  | ptr h => exact .ptr (hm _ _ h)
  | nils n c => exact .nils n c
  | sl h hx => exact .sl (hm _ _ h) hx
  | slg h hx hn hc hz => exact .slg (hm _ _ h) hx hn hc hz
  | nilm => exact .nilm
  | map h => exact .map (hm _ _ h)
  | nilf => exact .nilf
  | func hf h1 _ h3 _ ih2 ih4 => exact .func hf h1 ih2 h3 ih4
  | yld h => exact .yld (hm _ _ h)
  | nili => exact .nili
  | iface _ ih => exact .iface ih
  | agg h1 _ ih => exact .agg h1 ih
  | tuple h1 _ ih => exact .tuple h1 ih

/-- rows of values -/
def VRs (m : Mu) (x y : List Value) : Prop := x.length = y.length ∧ ∀ (i : Nat) (v : Value), x[i]? = some v → ∃ v' : Value, y[i]? = some v' ∧ VR m v v'
theorem VRs.mono {m m' : Mu} (hm : m.le m') {x y : List Value} (h : VRs m x y) : VRs m' x y := ⟨h.1, fun i v hi => let ⟨v', a, b⟩ := h.2 i v hi; ⟨v', a, b.mono hm⟩⟩
theorem VRs.nil (m : Mu) : VRs m [] [] := ⟨rfl, fun i v h => by simp at h⟩
theorem VRs.cons {m : Mu} {v v' : Value} {x y : List Value} (h : VR m v v') (k : VRs m x y) : VRs m (v :: x) (v' :: y) := by
  refine ⟨by simp [k.1], fun i u hu => ?_⟩
  cases i with
  | zero => exact ⟨v', rfl, by simp at hu; subst hu; exact h⟩
  | succ i => exact k.2 i u (by simpa using hu)
theorem VRs.head {m : Mu} {v v' : Value} {x y : List Value} (h : VRs m (v :: x) (v' :: y)) : VR m v v' := by
  obtain ⟨u, hu, hv⟩ := h.2 0 v rfl
  simp at hu; subst hu; exact hv
theorem VRs.tail {m : Mu} {v v' : Value} {x y : List Value} (h : VRs m (v :: x) (v' :: y)) : VRs m x y := by
  refine ⟨by simpa using h.1, fun i u hu => ?_⟩
  obtain ⟨u', h1, h2⟩ := h.2 (i + 1) u (by simpa using hu)
  exact ⟨u', by simpa using h1, h2⟩
theorem VRs.cons_inv {m : Mu} {v : Value} {x z : List Value} (h : VRs m (v :: x) z) : ∃ v' y, z = v' :: y ∧ VR m v v' ∧ VRs m x y := by
  cases z with
  | nil => have := h.1; simp at this
  | cons v' y => exact ⟨v', y, rfl, h.head, h.tail⟩
theorem VRs.nil_inv {m : Mu} {z : List Value} (h : VRs m [] z) : z = [] := List.eq_nil_of_length_eq_zero h.1.symm
theorem VRs.append {m : Mu} : ∀ {x y x' y' : List Value}, VRs m x x' → VRs m y y' → VRs m (x ++ y) (x' ++ y')
  | [], _, x', _, h, k => by rw [h.nil_inv]; exact k
  | v :: x, _, x', _, h, k => by
    obtain ⟨v', z, rfl, h1, h2⟩ := h.cons_inv
    exact .cons h1 (h2.append k)
theorem VRs.drop {m : Mu} : ∀ {x y : List Value} (n : Nat), VRs m x y → VRs m (x.drop n) (y.drop n)
  | x, y, 0, h => h
  | [], y, n + 1, h => by rw [h.nil_inv]; exact .nil m
  | v :: x, y, n + 1, h => by
    obtain ⟨v', z, rfl, _, h2⟩ := h.cons_inv
    exact h2.drop n
theorem VRs.take {m : Mu} : ∀ {x y : List Value} (n : Nat), VRs m x y → VRs m (x.take n) (y.take n)
  | x, y, 0, h => by simpa using VRs.nil m
  | [], y, n + 1, h => by rw [h.nil_inv]; exact .nil m
  | v :: x, y, n + 1, h => by
    obtain ⟨v', z, rfl, h1, h2⟩ := h.cons_inv
    exact .cons h1 (h2.take n)
theorem VRs.of_arr {m : Mu} {x x' : Array Value} (h1 : x.size = x'.size) (h2 : ∀ i (a : i < x.size) (b : i < x'.size), VR m x[i] x'[i]) : VRs m x.toList x'.toList := by
  refine ⟨by simpa using h1, fun i v hv => ?_⟩
  have hi : i < x.size := by
    rcases Nat.lt_or_ge i x.size with h | h
    · exact h
    · simp [h] at hv
  have hi' : i < x'.size := h1 ▸ hi
  refine ⟨x'[i], by simp [hi'], ?_⟩
  have : x[i] = v := by simpa [hi] using hv
  rw [← this]; exact h2 i hi hi'
theorem VRs.arr {m : Mu} {x x' : Array Value} (h : VRs m x.toList x'.toList) : x.size = x'.size ∧ ∀ i (a : i < x.size) (b : i < x'.size), VR m x[i] x'[i] := by
  refine ⟨by simpa using h.1, fun i a b => ?_⟩
  obtain ⟨v', h1, h2⟩ := h.2 i x[i] (by simp [a])
  have : x'[i] = v' := by simpa [b] using h1
  rw [this]; exact h2
theorem VR.agg' {m : Mu} {x x' : Array Value} (h : VRs m x.toList x'.toList) : VR m (.agg x) (.agg x') := .agg h.arr.1 h.arr.2
theorem VR.tuple' {m : Mu} {x x' : Array Value} (h : VRs m x.toList x'.toList) : VR m (.tuple x) (.tuple x') := .tuple h.arr.1 h.arr.2
theorem VRs.map {m : Mu} {α : Type} (f g : α → Value) : ∀ (l : List α), (∀ a ∈ l, VR m (f a) (g a)) → VRs m (l.map f) (l.map g)
  | [], _ => .nil m
  | a :: l, h => .cons (h a List.mem_cons_self) (VRs.map f g l fun b hb => h b (List.mem_cons_of_mem _ hb))

/-! one cell's values -/
def one : Value → Bool
  | .agg _ | .tuple _ => false
  | _ => true
theorem one_eq (v : Value) : v.oneCell' = one v := by cases v <;> rfl
theorem VR.one_eq {m : Mu} {v v' : Value} (h : VR m v v') : one v' = one v := by cases h <;> rfl

/-! memory -/
/-- what is known of a range over a function -/
structure ALoop where
  st : LoopState
  pend : Option Code
  env : Tr Value
  nt : Nat
  ps : List Tmp
  asg : Code
  body : Code
structure LoopR (m : Mu) (r : ALoop) (q : Loop) : Prop where
  st : q.state = r.st
  pend : q.pending = r.pend
  ps : q.params.toList = r.ps
  asg : q.assign = r.asg
  body : q.body = r.body
  nt : q.tmps.size = r.nt
  env : ∀ t v, r.env.get t = some v → ∃ v', q.tmps[t]? = some v' ∧ VR m v v'
theorem LoopR.mono {m m' : Mu} (hm : m.le m') {r : ALoop} {q : Loop} (h : LoopR m r q) : LoopR m' r q :=
  ⟨h.st, h.pend, h.ps, h.asg, h.body, h.nt, fun t v hv => let ⟨v', a, b⟩ := h.env t v hv; ⟨v', a, b.mono hm⟩⟩
inductive ABlk where
  | cells (n : Nat) (t : Tr Value) (elem : TypeId) (grown : Option Nat)   -- none: just these cells; some: an append made the row: an element's cells
  | map (es : List (Value × Value)) (bs : List Nat) (clk : Nat)   -- the entries, when they were laid, the clock
  | mit (mb : Option Nat) (since : Nat) (seen : List Nat) (last : Nat)   -- a walk over a map
  | siter (s : ByteArray) (pos : Nat)
  | loop (r : ALoop)
  | dfr
structure AHeap where
  next : Nat
  blk : Tr ABlk
noncomputable def AHeap.get (H : AHeap) (b : Nat) : Option ABlk := H.blk.get b
noncomputable def AHeap.put (H : AHeap) (b : Nat) (x : Option ABlk) : AHeap := ⟨H.next, H.blk.put b x⟩
theorem AHeap.get_put (H : AHeap) (b c : Nat) (x : Option ABlk) : (H.put b x).get c = if c = b then x else H.get c := Tr.get_put _ _ _ _

/-- block b of the world shows these cells -/
def CellsAt (m : Mu) (w : World) (l : Loc) (n : Nat) (t : Tr Value) (el : TypeId) (cs : Array Value) : Prop :=
  (∃ (fz : Nat × Nat), w.heap[l.blk]? = some (.cells cs el fz) ∧ ∀ i, i < cs.size → ¬ (fz.1 ≤ i ∧ i < fz.2) ∧ fz.1 ≤ fz.2) ∧ l.off + n ≤ cs.size ∧ ∀ i : Nat, i < n → ∃ v v' : Value, t.get i = some v ∧ cs[l.off + i]? = some v' ∧ VR m v v' ∧ one v = true
def BR (m : Mu) (w : World) (l : Loc) : ABlk → Prop
  | .cells n t elem none => l.fin = none ∧ ∃ cs : Array Value, CellsAt m w l n t elem cs ∧ l.off = 0 ∧ cs.size = n
  | .cells n t elem (some sz) => ∃ (e : Nat) (cs : Array Value), l.fin = some (sz, e) ∧ CellsAt m w l n t elem cs ∧ l.off + n ≤ e ∧ e ≤ cs.size
  | .map es bs clk => ∃ (ces : Array MapEntry), w.heap[l.blk]? = some (.map ces clk) ∧ ces.size = es.length ∧ (∀ (i : Nat) (k v : Value), es[i]? = some (k, v) → (∃ e : MapEntry, ces[i]? = some e ∧ VR m k e.key ∧ VR m v e.val)) ∧ MapKept.Stamped ces clk ∧ ces.toList.map (·.born) = bs
  | .mit mb since seen last => ∃ mb', (l.off = 0 ∧ ((mb = none ∧ mb' = none) ∨ ∃ b k, mb = some b ∧ m b = some k ∧ mb' = some k.blk)) ∧ w.heap[l.blk]? = some (.mapIter mb' since seen.toArray last)
  | .siter s pos => l.off = 0 ∧ w.heap[l.blk]? = some (.stringIter s pos)
  | .loop r => ∃ q : Loop, w.heap[l.blk]? = some (.loop q) ∧ LoopR m r q
  | .dfr => w.heap[l.blk]? = some (.deferred (some []))
theorem CellsAt.mono {m m' : Mu} (hm : m.le m') {w : World} {l : Loc} {n : Nat} {t : Tr Value} {e : TypeId} {cs : Array Value} (h : CellsAt m w l n t e cs) : CellsAt m' w l n t e cs :=
  ⟨h.1, h.2.1, fun i hi => let ⟨v, v', a, b, c, d⟩ := h.2.2 i hi; ⟨v, v', a, b, c.mono hm, d⟩⟩
theorem CellsAt.same {m : Mu} {w w' : World} {l : Loc} {n : Nat} {t : Tr Value} {e : TypeId} {cs : Array Value} (h : CellsAt m w l n t e cs) (hw : w'.heap[l.blk]? = w.heap[l.blk]?) : CellsAt m w' l n t e cs :=
  ⟨let ⟨fz, a, b⟩ := h.1; ⟨fz, hw.trans a, b⟩, h.2⟩
theorem BR.mono {m m' : Mu} (hm : m.le m') {w : World} {l : Loc} : ∀ {B : ABlk}, BR m w l B → BR m' w l B
  | .cells _ _ _ none, ⟨hf, cs, h, ho, hs⟩ => ⟨hf, cs, h.mono hm, ho, hs⟩
  | .cells _ _ _ (some _), ⟨e, cs, hf, h, h1, h2⟩ => ⟨e, cs, hf, h.mono hm, h1, h2⟩
  | .map _ _ _, ⟨ces, h, hs, hk, st⟩ => ⟨ces, h, hs, fun i k v hi => let ⟨e, a, b, d⟩ := hk i k v hi; ⟨e, a, b.mono hm, d.mono hm⟩, st⟩
  | .mit _ _ _ _, ⟨mb', h, k⟩ => ⟨mb', ⟨h.1, h.2.imp id fun ⟨b, q, h1, h2, h3⟩ => ⟨b, q, h1, hm _ _ h2, h3⟩⟩, k⟩
  | .siter _ _, h => h
  | .loop _, ⟨q, h, k⟩ => ⟨q, h, k.mono hm⟩
  | .dfr, h => h
theorem BR.same {m : Mu} {w w' : World} {l : Loc} (hw : w'.heap[l.blk]? = w.heap[l.blk]?) : ∀ {B : ABlk}, BR m w l B → BR m w' l B
  | .cells _ _ _ none, ⟨hf, cs, h, ho, hs⟩ => ⟨hf, cs, h.same hw, ho, hs⟩
  | .cells _ _ _ (some _), ⟨e, cs, hf, h, h1, h2⟩ => ⟨e, cs, hf, h.same hw, h1, h2⟩
  | .map _ _ _, ⟨ces, h, r⟩ => ⟨ces, hw.trans h, r⟩
  | .mit _ _ _ _, ⟨mb', h, k⟩ => ⟨mb', h, hw.trans k⟩
  | .siter _ _, h => ⟨h.1, hw.trans h.2⟩
  | .loop _, ⟨q, h, k⟩ => ⟨q, hw.trans h, k⟩
  | .dfr, h => hw.trans h
theorem BR.lt {m : Mu} {w : World} {l : Loc} : ∀ {B : ABlk}, BR m w l B → l.blk < w.heap.size
  | .cells _ _ _ none, ⟨_, _, h, _, _⟩ => let ⟨_, a, _⟩ := h.1; (Array.getElem?_eq_some_iff.1 a).1
  | .cells _ _ _ (some _), ⟨_, _, _, h, _, _⟩ => let ⟨_, a, _⟩ := h.1; (Array.getElem?_eq_some_iff.1 a).1
  | .map _ _ _, ⟨_, h, _⟩ => (Array.getElem?_eq_some_iff.1 h).1
  | .mit _ _ _ _, ⟨_, _, h⟩ => (Array.getElem?_eq_some_iff.1 h).1
  | .siter _ _, h => (Array.getElem?_eq_some_iff.1 h.2).1
  | .loop _, ⟨_, h, _⟩ => (Array.getElem?_eq_some_iff.1 h).1
  | .dfr, h => (Array.getElem?_eq_some_iff.1 h).1

structure R (base : Nat) (m : Mu) (H : AHeap) (w : World) : Prop where
  live : ∀ b B, H.get b = some B → ∃ l, m b = some l ∧ base ≤ l.blk ∧ BR m w l B
  inj : ∀ b c B C l k, H.get b = some B → H.get c = some C → m b = some l → m c = some k → l.blk = k.blk → b = c

/-- what is none of H's blocks is as it was -/
structure Fr (m : Mu) (H : AHeap) (w w' : World) : Prop where
  os : w'.os = w.os
  tape : w'.tape = w.tape
  output : w'.output = w.output
  size : w.heap.size ≤ w'.heap.size
  keep : ∀ i, i < w.heap.size → (∀ b B l, H.get b = some B → m b = some l → l.blk ≠ i) → w'.heap[i]? = w.heap[i]?
theorem Fr.refl (m : Mu) (H : AHeap) (w : World) : Fr m H w w := ⟨rfl, rfl, rfl, Nat.le_refl _, fun _ _ _ => rfl⟩
/-- the second step's blocks are the first's, or new -/
theorem Fr.trans {m m' : Mu} {H H' : AHeap} {w w1 w2 : World} (h : Fr m H w w1) (k : Fr m' H' w1 w2)
    (hs : ∀ b B l, H'.get b = some B → m' b = some l → w.heap.size ≤ l.blk ∨ ∃ c C k, H.get c = some C ∧ m c = some k ∧ k.blk = l.blk) : Fr m H w w2 :=
  ⟨k.os.trans h.os, k.tape.trans h.tape, k.output.trans h.output, Nat.le_trans h.size k.size, fun i hi hn => by
    rw [k.keep i (Nat.lt_of_lt_of_le hi h.size) ?_, h.keep i hi hn]
    intro b B l hb hl he
    rcases hs b B l hb hl with h1 | ⟨c, C, k', h1, h2, h3⟩
    · omega
    · exact hn c C k' h1 h2 (h3.trans he)⟩
theorem Fr.below {m : Mu} {H : AHeap} {w w' : World} {base : Nat} (h : Fr m H w w') (hr : R base m H w) (hb : base ≤ w.heap.size) : RowKit.Below base w w' :=
  ⟨h.os, h.tape, h.output, h.size, fun i hi => h.keep i (by omega) fun b B l h1 h2 he => by
    obtain ⟨l', h3, h4, _⟩ := hr.live b B h1
    rw [h2] at h3
    obtain rfl := Option.some.inj h3
    omega⟩

/-- The three that a step keeps: more is known of where things lie; what is new lies at new places. -/
def Ext (m m' : Mu) (N : Nat → Prop) : Prop := m.le m' ∧ ∀ b l, m' b = some l → m b = some l ∨ (m b = none ∧ N b)
theorem Ext.refl (m : Mu) (N : Nat → Prop) : Ext m m N := ⟨Mu.le_refl m, fun _ _ h => .inl h⟩
theorem Ext.trans {a b c : Mu} {N N' N'' : Nat → Prop} (h : Ext a b N) (k : Ext b c N') (h1 : ∀ i, N i → N'' i) (h2 : ∀ i, N' i → N'' i) : Ext a c N'' :=
  ⟨Mu.le_trans h.1 k.1, fun i l hi => by
    rcases k.2 i l hi with h' | ⟨h', hn⟩
    · rcases h.2 i l h' with h'' | ⟨h'', hn'⟩
      · exact .inl h''
      · exact .inr ⟨h'', h1 _ hn'⟩
    · refine .inr ⟨?_, h2 _ hn⟩
      cases ha : a i with
      | none => rfl
      | some l' => rw [h.1 i l' ha] at h'; cases h'⟩
theorem Ext.put {m : Mu} {i : Nat} {l : Loc} (h : m i = none) : Ext m (m.put i l) (· = i) := ⟨Mu.le_put h, fun b k hb => by
  unfold Mu.put at hb
  split at hb
  · rename_i e; subst e; exact .inr ⟨h, rfl⟩
  · exact .inl hb⟩
end Go.Proofs.YtkgmpkoamicheaaGreatDoor.M
