/- Small lemmas: rows of bytes that a call owns (append of a byte, of a string, read as a string), and maps written out entry by entry. No program in it. -/
import Derived.WalkKit
import Derived.Maps.OwnOps
import Derived.Maps.OwnSet
import Derived.Maps.AppendAt
import Derived.Lib.AppendStr
import Derived.Laws.BytesArg
import Derived.Maps.RangeWalk
import Derived.Deep.Draws
namespace Go.Proofs.YtkgmpkoamicheaaGreatDoor.Hb
open Go.RowKit
open Go.Instr (findNow)

theorem setBlock_alloc (w : World) (o o' : Obj) : ChangeMaps.setBlock (w.alloc o) w.heap.size o' = w.alloc o' := by
  unfold ChangeMaps.setBlock World.alloc
  congr 1
  apply Array.ext'
  simp

theorem run_insert_new {P : Program} {t kt et : TypeId} {d : TypeDesc} (ht : P.underlying t = some (.map kt et)) (hd : P.underlying kt = some d) (w : World) {es : Array MapEntry} {clock : Nat} {key v : Value} (hk : MapKept.IsKey d key)
    (hn : findNow d key es.toList 0 = some none) :
    Sem.run P (Instr.mapUpdate t (.map (some w.heap.size)) key v) (w.alloc (.map es clock)) = .ok () (w.alloc (.map (es.push ⟨key, v, clock⟩) (clock + 1))) := by
  have hb : (w.alloc (.map es clock)).heap[w.heap.size]? = some (.map es clock) := (MapKept.heap_alloc w _).1
  rw [← setBlock_alloc w (.map es clock) (.map (es.push ⟨key, v, clock⟩) (clock + 1))]
  simp [Instr.mapUpdate, run_underlying ht, MapKept.run_getObj_map hb, MapKept.run_checkKey hd hk, MapKept.run_findKey hd hn, MapKept.run_setObj_map _ hb, Result.andThen]
  rfl

theorem run_lookup_ok {P : Program} {t kt et : TypeId} {d : TypeDesc} (ht : P.underlying t = some (.map kt et)) (hd : P.underlying kt = some d) {w : World} {es : Array MapEntry} {clock : Nat} {key z : Value} (hk : MapKept.IsKey d key)
    {b : Nat} (hb : w.heap[b]? = some (.map es clock)) (hz : (zeroValue et).run P w = .ok z w) {r : Option (Nat × Value)} (hn : findNow d key es.toList 0 = some r) :
    Sem.run P (Instr.lookup t (.map (some b)) key true) w = .ok (.tuple #[(r.map (·.2)).getD z, .bool r.isSome]) w := by
  cases r <;> simp [Instr.lookup, run_underlying ht, MapKept.run_getObj_map hb, MapKept.run_checkKey hd hk, MapKept.run_findKey hd hn, Result.andThen, hz]

theorem bdrewN {B : Nat} {w W : World} (h : Below B w W) (n : Nat) : Below B w (W.drewN n) := ⟨h.os, h.tape, h.output, h.size, h.block⟩

/-! rows of bytes -/
def cellsB (l : List UInt8) : List Value := l.map fun b => Value.int .u8 b.toNat
theorem cellsB_length (l : List UInt8) : (cellsB l).length = l.length := by simp [cellsB]
theorem cellsB_append (l m : List UInt8) : cellsB (l ++ m) = cellsB l ++ cellsB m := by simp [cellsB]

def OwnB (w : World) (base : Nat) (e : TypeId) (v : Value) (l : List UInt8) : Prop := w.ownsRow base e 1 v l.length (cellsB l)

theorem OwnB.nil (w : World) (base : Nat) (e : TypeId) : OwnB w base e (.slice none 0 0) [] := World.ownsRow_nil _ _ _ _
theorem OwnB.drew {w : World} {base : Nat} {e : TypeId} {v : Value} {l : List UInt8} (h : OwnB w base e v l) : OwnB w.drew base e v l := h
theorem OwnB.alloc {w : World} {base : Nat} {e : TypeId} {v : Value} {l : List UInt8} (h : OwnB w base e v l) (o : Obj) : OwnB (w.alloc o) base e v l := World.ownsRow.alloc h o

theorem OwnB.below {w w1 : World} {base : Nat} {e : TypeId} {v : Value} {l : List UInt8} (h : OwnB w base e v l) (hb : Below w.heap.size w w1) : OwnB w1 base e v l :=
  World.ownsRow.kept h (row := none) ⟨hb.os, hb.tape, hb.output, hb.size, fun i hi _ => hb.block i hi⟩ (by cases v.ownBlock <;> simp)

theorem ownBlock_base {w : World} {base : Nat} {e : TypeId} {size n : Nat} {v : Value} {xs : List Value} (h : w.ownsRow base e size v n xs) (k : Nat) (hk : v.ownBlock = some k) : base ≤ k := by
  rcases h.2 with ⟨rfl, _⟩ | ⟨g, cap, cur, rfl, hb, _⟩
  · simp [Value.ownBlock] at hk
  · have : g = k := by simpa [Value.ownBlock] using hk
    omega

theorem ownB_slice {w : World} {base : Nat} {e : TypeId} {v : Value} {l : List UInt8} (h : OwnB w base e v l) : ∃ A c, v = .slice A l.length c := by
  rcases h.2 with ⟨rfl, h0⟩ | ⟨g, cap, cur, rfl, _⟩
  · exact ⟨none, 0, by rw [h0]⟩
  · exact ⟨_, cap, rfl⟩

theorem run_string {P : Program} {w : World} {base : Nat} {e' src dst e : TypeId} {v : Value} {l : List UInt8} (hs : P.underlying src = some (.slice e)) (he : P.underlying e = some (.int .u8)) (hd : P.underlying dst = some .string)
    (h : OwnB w base e' v l) : (convert src dst v).run P w = .ok (.string ⟨l.toArray⟩) w := by
  have hxs : strOfNums (l.map fun b => (b.toNat : Int)) = ⟨l.toArray⟩ := by
    unfold strOfNums
    congr 1
    simp [List.map_map, Function.comp_def]
  rcases h.2 with ⟨rfl, h0⟩ | ⟨g, cap, cur, rfl, _⟩
  · obtain rfl : l = [] := List.eq_nil_of_length_eq_zero h0
    exact run_convert_bytes_nil w src e hs he 0 0 dst hd
  · rw [← hxs]
    refine run_convert_bytes_arg w src e hs he g 0 l.length cap (l.map fun b => (b.toNat : Int)) (by simp) (fun i hi => ?_) dst hd
    have hc := World.ownsRow.cells h (g := g) rfl i (.int .u8 ((l.map fun b => (b.toNat : Int)).getD i 0)) (by simp [cellsB, List.getD_eq_getElem?_getD, List.getElem?_eq_getElem hi])
    have ha : (⟨g, 0, none⟩ : Addr).add i = ⟨g, 0 + i, none⟩ := by unfold Addr.add; split <;> simp_all
    rwa [ha] at hc

section
variable {P : Program} {ops : Array Oper} {rest : List Oper} {o : Oper} {a : Act} {Q : Exit → Act → World → Prop}

/-- append(v, c): behind 'at_builtin'; the goal's world is 'W.alloc' of the variadic's box. -/
theorem app_byte {W : World} (base : Nat) (hgd : o.guard = none) (s x : Operand) (t e : TypeId)
    (ho : o.op = .call { callee := .builtin .append, args := #[s, x], argTypes := #[t, t] })
    (ht : P.underlying t = some (.slice e)) (hinfo : (P.info? e).map (fun i => (i.zero, i.size, i.bytes)) = some (some (.int .u8 0), 1, 1))
    (v : Value) (l : List UInt8) (n : Int) (c : UInt8) (hn : n = c.toNat) (hs : a.eval s = v) (hx : a.eval x = .slice (some ⟨W.heap.size, 0, none⟩) 1 1)
    (HO : OwnB W base e v l) (hbase : base ≤ W.heap.size) (hl : l.length + 1 ≤ 140737488355328)
    (h : ∀ v1 w1, OwnB w1 base e v1 (l ++ [c]) → Below base W w1 → wpList P ops Q rest (a.put o.dst v1) w1) :
    wpList P ops Q (o :: rest) a (W.alloc (.cells #[.int .u8 n] e)) := by
  obtain ⟨i0, hi, hzz⟩ := Option.map_eq_some_iff.1 hinfo
  simp only [Prod.mk.injEq] at hzz
  obtain ⟨hz0, hz1, hz2⟩ := hzz
  subst hn
  refine wpList_append_own (W.alloc (.cells #[.int .u8 c.toNat] e)) hgd s x t ho base e i0 (.int .u8 0) 1 1 ht hi hz0 hz1 hz2 rfl (by omega) v l.length (cellsB l) hs (World.ownsRow.alloc HO _) ⟨W.heap.size, 0, none⟩ 1 1 [.int .u8 c.toNat] hx rfl
    (cell_one_new _ _ _) (by simp [Value.oneCell']) (by simp only [maxLen]; omega) (by omega) (by simp; omega) ?_
  intro v1 w1 hown hg _
  exact h v1 w1 (by simpa [OwnB, cellsB] using hown) (((Below.refl _ _).alloc hbase _).grown hg (by simp; omega) (ownBlock_base HO))

/-- append(v, s...), s a string. -/
theorem app_str {W : World} (base : Nat) (hgd : o.guard = none) (s x : Operand) (t u e : TypeId)
    (ho : o.op = .call { callee := .builtin .append, args := #[s, x], argTypes := #[t, u] })
    (ht : P.underlying t = some (.slice e)) (hu : P.underlying u = some .string) (hinfo : (P.info? e).map (fun i => (i.zero, i.size, i.bytes)) = some (some (.int .u8 0), 1, 1))
    (v : Value) (l : List UInt8) (y : ByteArray) (hs : a.eval s = v) (hx : a.eval x = .string y)
    (HO : OwnB W base e v l) (hbase : base ≤ W.heap.size) (hl : l.length + y.size ≤ 140737488355328)
    (h : ∀ v1 w1, OwnB w1 base e v1 (l ++ y.data.toList) → Below base W w1 → wpList P ops Q rest (a.put o.dst v1) w1) :
    wpList P ops Q (o :: rest) a W := by
  obtain ⟨i0, hi, hzz⟩ := Option.map_eq_some_iff.1 hinfo
  simp only [Prod.mk.injEq] at hzz
  obtain ⟨hz0, hz1, hz2⟩ := hzz
  refine Lib.wpList_append_own_string W hgd s x t u ho base e i0 ht hu hi hz0 hz1 hz2 v l.length (cellsB l) hs HO y hx (by simp only [maxLen]; omega) hl hbase ?_
  intro v1 w1 hown hg _
  refine h v1 w1 ?_ ((Below.refl _ _).grown hg hbase (ownBlock_base HO))
  have e1 : (l ++ y.data.toList).length = l.length + y.size := by rw [List.length_append]; rfl
  have e2 : cellsB (l ++ y.data.toList) = cellsB l ++ Lib.strCells y := by rw [cellsB_append]; rfl
  unfold OwnB
  rw [e1, e2]
  exact hown
end

theorem run_insert_at {P : Program} {t kt et : TypeId} {d : TypeDesc} (ht : P.underlying t = some (.map kt et)) (hd : P.underlying kt = some d) {w : World} {b : Nat} {es : Array MapEntry} {clock : Nat} {key v : Value} (hk : MapKept.IsKey d key)
    (hb : w.heap[b]? = some (.map es clock)) (hn : findNow d key es.toList 0 = some none) :
    Sem.run P (Instr.mapUpdate t (.map (some b)) key v) w = .ok () (ChangeMaps.setBlock w b (.map (es.push ⟨key, v, clock⟩) (clock + 1))) := by
  simp [Instr.mapUpdate, run_underlying ht, MapKept.run_getObj_map hb, MapKept.run_checkKey hd hk, MapKept.run_findKey hd hn, MapKept.run_setObj_map _ hb, Result.andThen]
  rfl

theorem grownBy_setBlock {w : World} {b : Nat} {o : Obj} (hb : w.heap[b]? = some o) (o' : Obj) : w.grownBy (ChangeMaps.setBlock w b o') (some b) ∧ (ChangeMaps.setBlock w b o').heap[b]? = some o' ∧ (ChangeMaps.setBlock w b o').heap.size = w.heap.size :=
  ⟨⟨rfl, rfl, rfl, by simp [ChangeMaps.setBlock], fun i _ hi => (MapKept.heap_set hb).2 i (fun e => hi (by rw [e]))⟩, (MapKept.heap_set hb).1, by simp [ChangeMaps.setBlock]⟩

/-- 'next' over a map whose entries are known, in whatever order the tape says. -/
theorem wpList_next_at {P : Program} (w : World) {ops : Array Oper} {rest : List Oper} {o : Oper} {a : Act} {Q : Exit → Act → World → Prop}
    (hg : o.guard = none) (it : Operand) (hop : o.op = Op.next it false) (r bm since c0 : Nat) (seen : Array Nat) (es : Array MapEntry) (clock : Nat)
    (hit : a.eval it = .pointer (some ⟨r, 0, none⟩)) (hr : w.heap[r]? = some (.mapIter (some bm) since seen c0)) (hb : w.heap[bm]? = some (.map es clock)) (hold : ∀ x ∈ es.toList, x.born < since) (hsc : since ≤ c0)
    (hDone : (∀ x ∈ es.toList, seen.contains x.born = true) → wpList P ops Q rest (a.put o.dst (.tuple #[.bool false])) w)
    (hMore : ∀ x ∈ es.toList, seen.contains x.born = false → ∀ w', w'.heap[r]? = some (.mapIter (some bm) since (seen.push x.born) clock) → w.grownBy w' (some r) → w'.heap.size = w.heap.size → wpList P ops Q rest (a.put o.dst (.tuple #[.bool true, x.key, x.val])) w') :
    wpList P ops Q (o :: rest) a w := by
  refine wpList_plain hg fun K' hK' => ?_
  unfold Oper.wp
  rcases run_next_at (P := P) w o.type r bm since c0 seen es clock hr hb hold hsc with ⟨h0, hrun⟩ | ⟨e, he, w1, hw1, hrun⟩
  · simp [execOp, hop, hit, hrun, Result.andThen]
    exact hK' _ _ (hDone (fun x hx => all_seen es seen h0 x hx))
  · simp [execOp, hop, hit, hrun, Result.andThen]
    have hm : e ∈ es.toList ∧ seen.contains e.born = false := by
      simp only [leftOf, Array.toList_filter, List.mem_filter, Bool.not_eq_true'] at he
      exact he
    have hr1 : w1.heap[r]? = some (.mapIter (some bm) since seen c0) := by rcases hw1 with rfl | rfl <;> exact hr
    obtain ⟨g1, g2, g3⟩ := grownBy_setBlock hr1 (.mapIter (some bm) since (seen.push e.born) clock)
    refine hK' _ _ (hMore e hm.1 hm.2 _ g2 ?_ ?_)
    · rcases hw1 with rfl | rfl
      · exact g1
      · exact ⟨g1.os, g1.tape, g1.output, g1.size, g1.block⟩
    · rcases hw1 with rfl | rfl
      · exact g3
      · exact g3
end Go.Proofs.YtkgmpkoamicheaaGreatDoor.Hb
