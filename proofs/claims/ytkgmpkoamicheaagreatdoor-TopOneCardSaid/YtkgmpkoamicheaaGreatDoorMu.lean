/- The quick way's answers are the program's: each operation. No program in it. -/
import Derived.Test.YtkgmpkoamicheaaGreatDoorMt
import Derived.Lib.UnsafeStr
namespace Go.Proofs.YtkgmpkoamicheaaGreatDoor.M
section
variable {P : Program} {T : Tab} {base : Nat} {m : Mu} {H : AHeap} {w : World} {nt : Nat} {env : AEnv} {a : Act}

theorem run_v {s : Sem Value} {v' : Value} {w' : World} (h : s.run P w = .ok v' w') : (do pure (.value (← s)) : Sem Next).run P w = .ok (.value v') w' := by simp [h]
theorem run_u {s : Sem Unit} {w' : World} (h : s.run P w = .ok () w') : (do s; pure .skip : Sem Next).run P w = .ok .skip w' := by simp [h]

/-- who is called: a function, or a range's yield -/
def calleeRun : Fn → Array Value → Sem Next
  | .func f, args => callFunc f args
  | .yield l, args => Instr.yield l args
  | _, args => callFunc 0 args
inductive FnR (m : Mu) : Fn → Fn → Prop
  | func (f : FuncId) : FnR m (.func f) (.func f)
  | yld {b : Nat} {l : Loc} (h : m b = some l) : FnR m (.yield b) (.yield l.blk)
/-- what an operation does in the world -/
def Acts (P : Program) (base : Nat) (m : Mu) (H : AHeap) (w : World) (s : Sem Next) (H1 : AHeap) (id : Nat) : Out → Prop
  | .val v => ∃ m' w' v', s.run P w = .ok (.value v') w' ∧ VR m' v v' ∧ Stp base m H w m' H1 w' (· = id)
  | .skip => ∃ m' w', s.run P w = .ok .skip w' ∧ Stp base m H w m' H1 w' (· = id)
  | .panic v => ∃ v', s.run P w = .halt (.panic v') w ∧ VR m v v' ∧ H1 = H
  | .call f args => ∃ (f' : Fn) (args' : Array Value), s.run P w = (calleeRun f' args').run P w ∧ FnR m f f' ∧ VRs m args args'.toList ∧ H1 = H
  | .defer d => ∃ args' cap' : Array Value, s.run P w = .ok (.defer { target := .fn (.func d.f) cap', args := args' }) w ∧ VRs m d.args args'.toList ∧ VRs m d.cap cap'.toList ∧ d.col = none ∧ H1 = H

theorem Acts.of_yld {s : Sem Value} {v : Value} {id : Nat} (hR : R base m H w) (h : Yld P m w s v) : Acts P base m H w (do pure (.value (← s))) H id (.val v) := by
  obtain ⟨v', h1, h2⟩ := h
  exact ⟨m, w, v', run_v h1, h2, Stp.refl hR _⟩
theorem Acts.of_mem {s : Sem Value} {v : Value} {id : Nat} {H1 : AHeap} (h : Mem P base m H w s v H1 id) : Acts P base m H w (do pure (.value (← s))) H1 id (.val v) := by
  obtain ⟨m', w', v', h1, h2, h3⟩ := h
  exact ⟨m', w', v', run_v h1, h2, h3⟩
theorem val_inv {x : Option Value} {out : Out} {H1 : AHeap} (h : val H x = some (out, H1)) : ∃ v, x = some v ∧ out = .val v ∧ H1 = H := by
  unfold val at h
  split at h
  · obtain ⟨rfl, rfl⟩ := Prod.mk.inj (Option.some.inj h)
    exact ⟨_, rfl, rfl, rfl⟩
  · cases h
theorem bind1_inv {α : Type} {f : Value → Option α} {x : Option Value} {v : α} (h : bind1 f x = some v) : ∃ u, x = some u ∧ f u = some v := by
  unfold bind1 at h
  split at h
  · exact ⟨_, rfl, h⟩
  · cases h
theorem bind2_inv {f : Value → Value → Option Value} {x y : Option Value} {v : Value} (h : bind2 f x y = some v) : ∃ u t, x = some u ∧ y = some t ∧ f u t = some v := by
  unfold bind2 at h
  split at h
  · exact ⟨_, _, rfl, rfl, h⟩
  · cases h
theorem bindP_inv {α : Type} {f : List (Nat × Value) → Option α} {x : Option (List (Nat × Value))} {v : α} (h : bindP f x = some v) : ∃ u, x = some u ∧ f u = some v := by
  unfold bindP at h
  split at h
  · exact ⟨_, rfl, h⟩
  · cases h
theorem optEv_ok (he : ERel m nt env a) {x : Option Operand} {y : Option Value} (h : optEv env x = some y) : VRo m y (x.map a.eval) := by
  unfold optEv at h
  split at h
  · obtain rfl := Option.some.inj h; exact .inl ⟨rfl, rfl⟩
  · split at h
    · rename_i v hv
      obtain rfl := Option.some.inj h
      exact .inr ⟨v, _, rfl, rfl, ev_ok he hv⟩
    · cases h
theorem xPick_ok (he : ERel m nt env a) {c x y : Operand} {v : Value} (h : xPick env c x y = some v) : Yld P m w (do pure (if ← asBool (a.eval c) then a.eval x else a.eval y)) v := by
  unfold xPick at h
  split at h
  · rename_i hc
    have := ev_ok he hc
    generalize hq : a.eval c = q at this
    cases this
    exact ⟨a.eval x, by simp [hq, asBool], ev_ok he h⟩
  · rename_i hc
    have := ev_ok he hc
    generalize hq : a.eval c = q at this
    cases this
    exact ⟨a.eval y, by simp [hq, asBool], ev_ok he h⟩
  · cases h
theorem xPanic_ok {x x' : Value} {out : Out} {H1 : AHeap} (h : xPanic H (some x) = some (out, H1)) (hx : VR m x x') : ∃ v, out = .panic v ∧ H1 = H ∧ (Instr.panic x').run P w = .halt (.panic x') w ∧ VR m v x' := by
  unfold xPanic at h
  split at h
  · rename_i t v e
    obtain rfl := Option.some.inj e
    obtain ⟨rfl, rfl⟩ := Prod.mk.inj (Option.some.inj h)
    cases hx
    rename_i v' hv
    exact ⟨_, rfl, rfl, by simp [Instr.panic], .iface hv⟩
  · cases h
theorem arr_get {α : Type} {xs : Array α} {x : α} {l : List α} (h : xs.toList = x :: l) : xs[0]? = some x := by
  have : xs.toList[0]? = some x := by rw [h]; rfl
  simpa using this
theorem arr_get1 {α : Type} {xs : Array α} {x y : α} {l : List α} (h : xs.toList = x :: y :: l) : xs[1]? = some y := by
  have : xs.toList[1]? = some y := by rw [h]; rfl
  simpa using this

theorem xMax_ok {args : List Value} {args' : Array Value} {v : Value} (ha : VRs m args args'.toList) (ts : Array TypeId) (ty : TypeId) :
    (xMax (fun b a => decide (b > a)) args = some v → Yld P m w (Builtin.max_ ts ty args') v) ∧ (xMax (fun b a => decide (b < a)) args = some v → Yld P m w (Builtin.min_ ts ty args') v) := by
  constructor <;> intro h <;> unfold xMax at h <;> split at h
  · rename_i k x k' y
    split at h
    · rename_i hk
      obtain rfl := Option.some.inj h
      obtain ⟨v1, l1, e1, g1, r1⟩ := ha.cons_inv
      obtain ⟨v2, l2, e2, g2, r2⟩ := r1.cons_inv
      have e3 := r2.nil_inv
      cases g1; cases g2
      refine ⟨_, ?_, .int _ _⟩
      simp only [Builtin.max_, e1, e2, e3, List.foldlM_cons, List.foldlM_nil, Builtin.max2]
      simp
    · cases h
  · cases h
  · rename_i k x k' y
    split at h
    · rename_i hk
      obtain rfl := Option.some.inj h
      obtain ⟨v1, l1, e1, g1, r1⟩ := ha.cons_inv
      obtain ⟨v2, l2, e2, g2, r2⟩ := r1.cons_inv
      have e3 := r2.nil_inv
      cases g1; cases g2
      refine ⟨_, ?_, .int _ _⟩
      simp only [Builtin.min_, e1, e2, e3, List.foldlM_cons, List.foldlM_nil, Builtin.min2]
      simp
    · cases h
  · cases h

theorem liesAt_any {e : TypeId} (hc : P.cellsOf e = 1) (count off n : Nat) (hn : off + n ≤ count) : liesAt P P.depth e count off e n = true := by
  have hd : P.depth = (2 * (P.types.size + Made.depth) + 1) + 1 := rfl
  rw [hd]
  simp only [liesAt, Bool.or_eq_true]
  left
  rw [hd]
  simp [rowAt, hc, hn, sameLayout, Nat.mod_one]
theorem run_loadInts : ∀ (ns : List Int) (a : Addr) (acc : ByteArray), (∀ j x, ns[j]? = some x → w.cell? (a.add j) = some (.int .u8 x)) →
    (loadBytes a acc ns.length).run P w = .ok ⟨acc.data ++ (ns.map fun n => UInt8.ofNat n.toNat).toArray⟩ w
  | [], a, acc, _ => by simp [loadBytes]
  | x :: l, a, acc, h => by
    have h0 : w.cell? a = some (.int .u8 x) := by
      have := h 0 x rfl
      simpa [Addr.add] using this
    have ih := run_loadInts l (a.add 1) (acc.push (UInt8.ofNat x.toNat)) (fun j y hy => by
      have := h (j + 1) y (by simpa using hy)
      have e : (a.add 1).add j = a.add (j + 1) := by
        unfold Addr.add
        by_cases hj : j = 0
        · subst hj; simp
        · simp [hj]; omega
      rw [e]; exact this)
    have hx : (x.toNat).toUInt8 = UInt8.ofNat x.toNat := rfl
    simp only [List.length_cons, loadBytes, Sem.run_bind, run_load, h0, Result.andThen, hx]
    rw [ih]
    congr 1
    apply ByteArray.ext
    simp [ByteArray.push]
theorem run_unsafeStr (pt it ty e : TypeId) (hp : P.underlying pt = some (.pointer e)) (hc : P.cellsOf e = 1) (g off cells : Nat) (hsh : w.shape? g = some (e, cells)) (ns : List Int) (h0 : ns ≠ []) (hn : off + ns.length ≤ cells) (h63 : ns.length ≤ 9223372036854775807)
    (hcell : ∀ j x, ns[j]? = some x → w.cell? ((⟨g, off, none⟩ : Addr).add j) = some (.int .u8 x)) :
    (Builtin.unsafeString_ #[pt, it] ty #[.pointer (some ⟨g, off, none⟩), .int .i64 ns.length]).run P w = .ok (.string ⟨(ns.map fun n => UInt8.ofNat n.toNat).toArray⟩) (w.freeze ⟨g, off, none⟩ ns.length) := by
  have hl : ns.length ≠ 0 := by simpa using h0
  have hlb := run_loadInts (P := P) (w := w) ns ⟨g, off, none⟩ .empty hcell
  have hlies := liesAt_any (P := P) hc (cells / P.cellsOf e) off ns.length (by rw [hc]; simpa using hn)
  have h63' : ¬ (9223372036854775807 : Int) < (ns.length : Int) := by omega
  have hdef : Builtin.unsafeString_ #[pt, it] ty #[.pointer (some ⟨g, off, none⟩), .int .i64 ns.length] =
      (do
        let n ← asInt (.int .i64 ns.length)
        if n < 0 then runtimePanic (.error "unsafe.String: len out of range")
        if n > IntKind.i64.max then unsupported (.unsafePointer "String: a length above the largest int")
        if n = 0 then pure (.string .empty)
        else if ← variablesAt ⟨g, off, none⟩ (← elemOf pt) n.toNat then do
          let s ← loadBytes ⟨g, off, none⟩ .empty n.toNat
          freeze ⟨g, off, none⟩ n.toNat
          pure (.string s)
        else unsupported (.unsafePointer "String: not so many bytes at ptr")) := rfl
  rw [hdef]
  have hmax : IntKind.i64.max = 9223372036854775807 := rfl
  have hneg : ¬ (ns.length : Int) < 0 := by omega
  simp [asInt, asIntOf, hmax, h63', hneg, hl, variablesAt, hsh, elemOf, run_underlying hp, hlies, hlb]
theorem xSData_ok {args : List Value} {args' : Array Value} {v : Value} (h : xSData args = some v) (ha : VRs m args args'.toList) (ts : Array TypeId) (ty : TypeId) : Yld P m w (Builtin.unsafeSliceData_ ts ty args') v := by
  unfold xSData at h
  split at h
  · rename_i n0 c0
    obtain rfl := Option.some.inj h
    obtain ⟨v', y, e1, g1, g2⟩ := ha.cons_inv
    obtain rfl := g2.nil_inv
    cases g1
    have e2 : args' = #[.slice none n0 c0] := by
      obtain ⟨l⟩ := args'
      simp only at e1
      rw [e1]
    subst e2
    exact ⟨.pointer none, rfl, .nilp⟩
  · rename_i b o n c
    split at h
    · cases h
    rename_i hn0
    have hn : c ≠ 0 := by simpa [Tr.beq_iff] using hn0
    obtain rfl := Option.some.inj h
    obtain ⟨v', y, e1, g1, g2⟩ := ha.cons_inv
    obtain rfl := g2.nil_inv
    obtain ⟨l, o', c', hl, rfl, hcc, hor⟩ := g1.sl_inv
    have hc' : c' ≠ 0 := by omega
    have ho' : o' = l.off + o := by
      rcases hor with ⟨_, q, _⟩ | ⟨sz, e, _, _, q | ⟨q, _⟩⟩
      · exact q
      · exact absurd q hc'
      · exact q
    have e2 : args' = #[.slice (some ⟨l.blk, o', none⟩) n c'] := by
      obtain ⟨l⟩ := args'
      simp only at e1
      rw [e1]
    subst e2
    subst ho'
    refine ⟨.pointer (some ⟨l.blk, l.off + o, none⟩), ?_, .ptr hl⟩
    obtain ⟨k, rfl⟩ : ∃ k, c' = k + 1 := ⟨c' - 1, by omega⟩
    rfl
  · cases h
theorem freeze_far (g off n k : Nat) (hk : k ≠ g) : (w.freeze ⟨g, off, none⟩ n).heap[k]? = w.heap[k]? := by
  simp only [World.freeze]
  split
  · rfl
  · simp only [Array.getElem?_modify]
    rw [if_neg (fun e => hk e.symm)]
theorem freeze_same (a : Addr) (n : Nat) : (w.freeze a n).os = w.os ∧ (w.freeze a n).tape = w.tape ∧ (w.freeze a n).output = w.output ∧ (w.freeze a n).heap.size = w.heap.size := by
  simp only [World.freeze]
  split
  · exact ⟨rfl, rfl, rfl, rfl⟩
  · exact ⟨rfl, rfl, rfl, by simp⟩
theorem xUStr_ok (hT : TabOk P T) (hR : R base m H w) {id : Nat} {pt : TypeId} {ts : List TypeId} {args : List Value} {args' : Array Value} {out : Out} {H1 : AHeap} (h : xUStr T H pt args = some (out, H1)) (ha : VRs m args args'.toList) (ty : TypeId) (hts : ∃ it, (pt :: ts) = [pt, it]) :
    ∃ v, out = .val v ∧ Mem P base m H w (Builtin.unsafeString_ (pt :: ts).toArray ty args') v H1 id := by
  obtain ⟨it, hit⟩ := hts
  rw [hit]
  unfold xUStr at h
  split at h
  case h_2 => cases h
  rename_i p n
  obtain ⟨p', y, e1, g1, g2⟩ := ha.cons_inv
  obtain ⟨n', z, rfl, g3, g4⟩ := g2.cons_inv
  obtain rfl := g4.nil_inv
  cases g3
  obtain ⟨la⟩ := args'
  simp only at e1
  subst e1
  have hmax : IntKind.i64.max = 9223372036854775807 := rfl
  split at h
  · rename_i hn
    subst hn
    obtain ⟨rfl, rfl⟩ := Prod.mk.inj (Option.some.inj h)
    refine ⟨_, rfl, m, w, .string .empty, ?_, .string _, Stp.refl hR _⟩
    obtain ⟨q, rfl⟩ : ∃ q, p' = .pointer q := by cases g1 <;> exact ⟨_, rfl⟩
    exact Lib.run_unsafeString_none w pt it ty q
  · rename_i hn0
    split at h
    case h_2 => cases h
    rename_i b o r hr
    split at h
    case h_2 => cases h
    rename_i e' k tr e hu hb
    split at h
    case h_2 => cases h
    rename_i re hre
    split at h
    case isFalse => cases h
    rename_i hc
    simp only [Bool.and_eq_true, Tr.beq_iff, decide_eq_true_eq] at hc
    obtain ⟨⟨⟨⟨rfl, hsz⟩, hpos⟩, h63⟩, hok⟩ := hc
    split at h
    case h_2 => cases h
    rename_i l hl
    split at h
    case h_2 => cases h
    rename_i bs hbs
    obtain ⟨rfl, rfl⟩ := Prod.mk.inj (Option.some.inj h)
    obtain ⟨lc, hlc, rfl⟩ := g1.ptr_inv
    obtain ⟨hbase, f, cs, hfin, hcs, hoe, hec⟩ := hR.at hb hlc
    obtain ⟨vs', k1, k2, k3, k4⟩ := hcs.row hok hl
    obtain ⟨ns, rfl, rfl⟩ := bytesOf_ok hbs
    obtain rfl := k1.ints
    have hlen : ns.length = n.toNat := by simpa using k2
    have hnn : n = (ns.length : Int) := by omega
    subst hnn
    obtain ⟨⟨fz, hh, hz⟩, hncs, _⟩ := hcs
    have hne : ns ≠ [] := by intro q; subst q; simp at hpos
    have hinfo := (hT _ re hre).2.1
    obtain ⟨i, hi, hi2, _⟩ := hinfo
    have hcell : P.cellsOf e = 1 := by simp [Program.cellsOf, hi, hi2, hsz]
    have hpt : P.underlying pt = some (.pointer e) := by rw [(hT _ r hr).1, hu]
    have hrun := run_unsafeStr (P := P) (w := w) pt it ty e hpt hcell lc.blk (lc.off + o) cs.size (by simp [World.shape?, hh]) ns hne (by simp at hok; omega) (by omega) (fun j x hj => by
      have := k4 j (.int .u8 x) (by simp [hj])
      rw [add_none]; exact this)
    exact ⟨_, rfl, m, _, _, hrun, by simpa using VR.string _, hR.drop hb hlc (freeze_same _ _) (fun k hk => freeze_far _ _ _ _ hk) _⟩
theorem xBuiltin_ok (hT : TabOk P T) (hR : R base m H w) (hb : base ≤ w.heap.size) {id : Nat} (hid : m id = none) {b : Builtin} {ts : Array TypeId} {args : List Value} {args' : Array Value} {ty : TypeId} {cs : Array Bool} {out : Out} {H1 : AHeap}
    (ha : VRs m args args'.toList) (h : xBuiltin T id H b ts.toList args = some (out, H1)) : Acts P base m H w (builtin b ts ty cs args') H1 id out := by
  unfold xBuiltin at h
  split at h
  · -- append
    split at h
    case h_2 => cases h
    rename_i t u tl s x xl ht
    obtain ⟨s', l1, e1, hs, r1⟩ := ha.cons_inv
    obtain ⟨x', l2, rfl, hx, r2⟩ := r1.cons_inv
    unfold xAppend at h
    split at h
    case h_2 => cases h
    rename_i ru hru
    split at h
    · cases h
    rename_i hnu
    split at h
    · rename_i v H' hap
      obtain ⟨rfl, rfl⟩ := Prod.mk.inj (Option.some.inj h)
      exact Acts.of_mem (aclone_mem hT hR hb hid hap (arr_get ht) (arr_get1 ht) (arr_get e1) (arr_get1 e1) hru hnu hs hx)
    split at h
    case h_2 => cases h
    rename_i v H' hap
    obtain ⟨rfl, rfl⟩ := Prod.mk.inj (Option.some.inj h)
    exact Acts.of_mem (aappend_ok hT hR hb hid hap (arr_get ht) (arr_get1 ht) (arr_get e1) (arr_get1 e1) hru hnu hs hx)
  · -- len
    split at h
    case h_2 => cases h
    rename_i t tl x xl ht
    obtain ⟨x', l1, e1, hx, r1⟩ := ha.cons_inv
    obtain ⟨v, hv, rfl, rfl⟩ := val_inv h
    have := xLen_ok (P := P) (ts := tl) (xs' := l1) (ty := ty) hT hR hv hx
    have e3 : (t :: tl).toArray = ts := by rw [← ht]
    have e4 : (x' :: l1).toArray = args' := by rw [← e1]
    rw [e3, e4] at this
    exact Acts.of_yld hR this
  · obtain ⟨v, hv, rfl, rfl⟩ := val_inv h
    exact Acts.of_yld hR ((xMax_ok ha ts ty).1 hv)
  · obtain ⟨v, hv, rfl, rfl⟩ := val_inv h
    exact Acts.of_yld hR ((xMax_ok ha ts ty).2 hv)
  · -- copy
    split at h
    case h_2 => cases h
    rename_i t tl d x xl ht
    obtain ⟨d', l1, e1, hd, r1⟩ := ha.cons_inv
    obtain ⟨x', l2, rfl, hx, r2⟩ := r1.cons_inv
    obtain ⟨v, rfl, hm⟩ := xCopy_ok (P := P) (ty := ty) (id := id) hT hR h (arr_get ht) (arr_get e1) (arr_get1 e1) hd hx
    exact Acts.of_mem hm
  · -- delete
    split at h
    case h_2 => cases h
    rename_i t tl bb k xl ht
    obtain ⟨d', l1, e1, hd, r1⟩ := ha.cons_inv
    obtain ⟨x', l2, rfl, hx, r2⟩ := r1.cons_inv
    obtain ⟨v, rfl, hm⟩ := xDelete_ok (P := P) (ty := ty) (id := id) hT hR h (arr_get ht) (arr_get e1) (arr_get1 e1) hd hx
    exact Acts.of_mem hm
  · -- clear
    split at h
    case h_2 => cases h
    rename_i t tl aa n c xl ht
    obtain ⟨d', l1, e1, hd, r1⟩ := ha.cons_inv
    obtain ⟨v, rfl, hm⟩ := xClear_ok (P := P) (ty := ty) (id := id) hT hR h (arr_get ht) (arr_get e1) hd
    exact Acts.of_mem hm
  · -- panic
    split at h
    case h_2 => cases h
    rename_i x xl
    obtain ⟨x', l1, e1, hx, r1⟩ := ha.cons_inv
    obtain ⟨v, rfl, rfl, g1, g2⟩ := xPanic_ok (P := P) (w := w) h hx
    have e2 : args'.getD 0 .nilIface = x' := by rw [Array.getD_eq_getD_getElem?, arr_get e1]; rfl
    exact ⟨x', by simp [builtin, e2, g1], g2, rfl⟩
  · obtain ⟨v, hv, rfl, rfl⟩ := val_inv h
    exact Acts.of_yld hR (xSData_ok hv ha ts ty)
  · split at h
    case h_2 => cases h
    rename_i t tl ht
    split at h
    case isFalse => cases h
    rename_i hl
    obtain ⟨v, rfl, hm⟩ := xUStr_ok (P := P) (id := id) (ts := tl) hT hR h ha ty (by
      match tl, hl with
      | [it], _ => exact ⟨it, rfl⟩)
    have e3 : (t :: tl).toArray = ts := by rw [← ht]
    rw [e3] at hm
    exact Acts.of_mem hm
  · cases h

theorem aop_ok (hT : TabOk P T) (hR : R base m H w) (hb : base ≤ w.heap.size) {id : Nat} (hid : m id = none) (he : ERel m nt env a) {o : Oper} {out : Out} {H1 : AHeap} (h : aop T id env H o.op = some (out, H1)) :
    Acts P base m H w (execOp a.eval o) H1 id out := by
  obtain ⟨dst, op, type, pos, after, guard⟩ := o
  cases op <;> simp only [aop] at h <;> (try cases h) <;> simp only [execOp]
  case move x =>
    obtain ⟨v, hv, rfl, rfl⟩ := val_inv h
    exact ⟨m, w, _, rfl, ev_ok he hv, Stp.refl hR _⟩
  case assign x =>
    obtain ⟨v, hv, rfl, rfl⟩ := val_inv h
    exact ⟨m, w, _, rfl, ev_ok he hv, Stp.refl hR _⟩
  case pick c x y =>
    obtain ⟨v, hv, rfl, rfl⟩ := val_inv h
    obtain ⟨v', h1, h2⟩ := xPick_ok (P := P) (w := w) he hv
    refine ⟨m, w, v', ?_, h2, Stp.refl hR _⟩
    simp only [Sem.run_bind] at h1 ⊢
    cases hq : (asBool (a.eval c)).run P w with
    | ok b w2 => rw [hq] at h1; simp at h1 ⊢; exact h1
    | halt q w2 => rw [hq] at h1; simp at h1
  case alloc e =>
    obtain ⟨v, rfl, hm⟩ := xAlloc_ok (P := P) hT hR hb hid h
    exact Acts.of_mem hm
  case box e x =>
    cases hx : ev env x with
    | none => rw [hx] at h; cases h
    | some v =>
      rw [hx] at h
      obtain ⟨v, rfl, hm⟩ := xBox_ok (P := P) hR hb hid h (ev_ok he hx)
      exact Acts.of_mem hm
  case build t ps =>
    obtain ⟨v, hv, rfl, rfl⟩ := val_inv h
    obtain ⟨us, hus, hv⟩ := bindP_inv hv
    obtain ⟨g1, g2⟩ := evParts_ok he hus
    exact Acts.of_yld hR (xBuild_ok hT hv (by simpa using g1) (fun i p hp => by simpa using g2 i p hp))
  case buildSlice t n ps =>
    obtain ⟨us, hus, hv⟩ := bindP_inv h
    obtain ⟨g1, g2⟩ := evParts_ok he hus
    obtain ⟨v, rfl, hm⟩ := xBuildSlice_ok (P := P) (ps' := ps.map fun (i, x) => (i, a.eval x)) hT hR hb hid hv (by simpa using g1) (fun i p hp => by simpa using g2 i p hp)
    exact Acts.of_mem hm
  case load t x =>
    obtain ⟨v, hv, rfl, rfl⟩ := val_inv h
    obtain ⟨p, hp, hv⟩ := bind1_inv hv
    exact Acts.of_yld hR (load_ok hT hR (ev_ok he hp) hv)
  case store t x y =>
    cases hx : ev env x with
    | none => rw [hx] at h; cases h
    | some p =>
      cases hy : ev env y with
      | none => rw [hx, hy] at h; cases h
      | some v =>
        rw [hx, hy] at h
        simp only [xStore] at h
        split at h
        · rename_i H' hs
          obtain ⟨rfl, rfl⟩ := Prod.mk.inj (Option.some.inj h)
          obtain ⟨w', h1, h2⟩ := store_ok (P := P) hT hR (ev_ok he hx) (ev_ok he hy) hs (· = id)
          exact ⟨m, w', run_u h1, h2⟩
        · cases h
  case nilCheck x =>
    obtain ⟨v, hv, rfl, rfl⟩ := val_inv h
    cases hx : ev env x with
    | none => rw [hx] at hv; simp [xNil] at hv
    | some p =>
      have := ev_ok he hx
      rw [hx] at hv
      generalize hq : a.eval x = q at this
      unfold xNil at hv
      split at hv
      · rename_i e; obtain rfl := Option.some.inj e; obtain rfl := Option.some.inj hv
        cases this
        exact ⟨m, w, _, rfl, .ptr ‹_›, Stp.refl hR _⟩
      · rename_i e; obtain rfl := Option.some.inj e; obtain rfl := Option.some.inj hv
        cases this
        exact ⟨m, w, _, rfl, .iface ‹_›, Stp.refl hR _⟩
      · rename_i e; obtain rfl := Option.some.inj e; obtain rfl := Option.some.inj hv
        have this' := this
        cases this
        exact ⟨m, w, _, rfl, this', Stp.refl hR _⟩
      · rename_i e; obtain rfl := Option.some.inj e; obtain rfl := Option.some.inj hv
        have this' := this
        cases this
        · rename_i hn _ _ _ _; exact absurd rfl (hn _)
        · exact ⟨m, w, _, rfl, this', Stp.refl hR _⟩
      · cases hv
  case binOp op t x y yt =>
    obtain ⟨v, hv, rfl, rfl⟩ := val_inv h
    obtain ⟨p, q, hp, hq, hv⟩ := bind2_inv hv
    exact Acts.of_yld hR (abinG_ok hT hv (ev_ok he hp) (ev_ok he hq))
  case unOp op t x =>
    obtain ⟨v, hv, rfl, rfl⟩ := val_inv h
    obtain ⟨p, hp, hv⟩ := bind1_inv hv
    exact Acts.of_yld hR (aun_ok hv (ev_ok he hp))
  case convert s d x =>
    obtain ⟨p, hp, hv⟩ := bind1_inv h
    obtain ⟨v, rfl, hm⟩ := xConvert_ok (P := P) hT hR hb hid hv (ev_ok he hp)
    exact Acts.of_mem hm
  case makeInterface t x =>
    obtain ⟨v, hv, rfl, rfl⟩ := val_inv h
    obtain ⟨p, hp, hv⟩ := bind1_inv hv
    exact Acts.of_yld hR (xIface_ok hT hv (ev_ok he hp))
  case makeFunc fn fi ca =>
    obtain ⟨v, hv, rfl, rfl⟩ := val_inv h
    cases hx : evs env fi.toList with
    | none => rw [hx] at hv; simp [xFunc] at hv
    | some xs =>
      cases hy : evs env ca.toList with
      | none => rw [hx, hy] at hv; simp [xFunc] at hv
      | some ys =>
        rw [hx, hy] at hv
        exact Acts.of_yld hR (xFunc_ok hv (by simpa using evs_ok he hx) (by simpa using evs_ok he hy))
  case makeMap t r =>
    have hnew : ∀ (r : Option Value), (∀ v, r = some v → ∃ k n, v = .int k n) → xMakeMap T id H t = some (out, H1) → Acts P base m H w (do pure (.value (← Instr.makeMap t r))) H1 id out := fun r hr h => by
      unfold xMakeMap at h
      split at h
      case h_2 => cases h
      rename_i row hrow
      have hu := hT.und hrow w
      split at h
      case h_2 => cases h
      rename_i kt et hd
      obtain ⟨rfl, rfl⟩ := Prod.mk.inj (Option.some.inj h)
      refine ⟨m.put id ⟨w.heap.size, 0, none⟩, w.alloc (.map #[] 0), .map (some w.heap.size), run_v ?_, by simpa using VR.map (Mu.put_at m id ⟨w.heap.size, 0, none⟩), hR.new hb hid rfl (BR.mapI (alloc_new _ _) rfl (by simp) (by simp [MapKept.Stamped]) rfl)⟩
      cases r with
      | none => simp [Instr.makeMap]
      | some v =>
        obtain ⟨k, n, rfl⟩ := hr v rfl
        simp [Instr.makeMap, hu, hd, asInt, asIntOf]
    cases r with
    | none => exact hnew none (by simp) h
    | some x =>
      cases x with
      | const v =>
        cases v with
        | int k n => exact hnew (some (.int k n)) (fun v hv => ⟨k, n, (Option.some.inj hv).symm⟩) h
        | _ => cases h
      | _ => cases h
  case makeSlice t l c =>
    cases hx : ev env l with
    | none => rw [hx] at h; simp [xMakeSlice] at h
    | some p =>
      cases hy : ev env c with
      | none => rw [hx, hy] at h; simp [xMakeSlice] at h
      | some v =>
        rw [hx, hy] at h
        obtain ⟨v, rfl, hm⟩ := xMakeSlice_ok (P := P) hT hR hb hid h (ev_ok he hx) (ev_ok he hy)
        exact Acts.of_mem hm
  case slice t x lo hi mx =>
    obtain ⟨v, hv, rfl, rfl⟩ := val_inv h
    unfold xSlice at hv
    split at hv
    · rename_i p l hh mm hx h1 h2 h3
      exact Acts.of_yld hR (aslice_ok hT hR hv (ev_ok he hx) (optEv_ok he h1) (optEv_ok he h2) (optEv_ok he h3))
    · cases hv
  case fieldAddr s x f =>
    obtain ⟨v, hv, rfl, rfl⟩ := val_inv h
    cases hx : ev env x with
    | none => rw [hx] at hv; simp [xFieldAddr] at hv
    | some p => rw [hx] at hv; exact Acts.of_yld hR (xFieldAddr_ok hT hv (ev_ok he hx))
  case field s x f =>
    obtain ⟨v, hv, rfl, rfl⟩ := val_inv h
    cases hx : ev env x with
    | none => rw [hx] at hv; simp [xField] at hv
    | some p => rw [hx] at hv; exact Acts.of_yld hR (xField_ok hT hv (ev_ok he hx))
  case indexAddr t x i =>
    obtain ⟨v, hv, rfl, rfl⟩ := val_inv h
    cases hx : ev env x with
    | none => rw [hx] at hv; simp [xIndexAddr] at hv
    | some p =>
      cases hi : ev env i with
      | none => rw [hx, hi] at hv; simp [xIndexAddr] at hv
      | some q => rw [hx, hi] at hv; exact Acts.of_yld hR (xIndexAddr_ok hT hv (ev_ok he hx) (ev_ok he hi))
  case index t x i =>
    obtain ⟨v, hv, rfl, rfl⟩ := val_inv h
    cases hx : ev env x with
    | none => rw [hx] at hv; simp [xIndex] at hv
    | some p =>
      cases hi : ev env i with
      | none => rw [hx, hi] at hv; simp [xIndex] at hv
      | some q => rw [hx, hi] at hv; exact Acts.of_yld hR (xIndex_ok hT hv (ev_ok he hx) (ev_ok he hi))
  case lookup t x k ok =>
    obtain ⟨v, hv, rfl, rfl⟩ := val_inv h
    cases hx : ev env x with
    | none => rw [hx] at hv; simp [xLookup] at hv
    | some p =>
      cases hi : ev env k with
      | none => rw [hx, hi] at hv; simp [xLookup] at hv
      | some q => rw [hx, hi] at hv; exact Acts.of_yld hR (xLookup_ok hT hR hv (ev_ok he hx) (ev_ok he hi))
  case range t x =>
    cases hx : ev env x with
    | none => rw [hx] at h; simp [xRange] at h
    | some p =>
      rw [hx] at h
      obtain ⟨v, rfl, hm⟩ := xRange_ok (P := P) hT hR hb hid h (ev_ok he hx)
      exact Acts.of_mem hm
  case typeAssert x xt as_ ok =>
    obtain ⟨v, hv, rfl, rfl⟩ := val_inv h
    cases hx : ev env x with
    | none => rw [hx] at hv; simp [xAssert] at hv
    | some p => rw [hx] at hv; exact Acts.of_yld hR (xAssert_ok hT hv (ev_ok he hx))
  case extract x i =>
    obtain ⟨v, hv, rfl, rfl⟩ := val_inv h
    cases hx : ev env x with
    | none => rw [hx] at hv; simp [xExtract] at hv
    | some p => rw [hx] at hv; exact Acts.of_yld hR (xExtract_ok hv (ev_ok he hx))
  case mapUpdate t x k v =>
    cases hx : ev env x with
    | none => rw [hx] at h; simp [xUpdate] at h
    | some p =>
      cases hk : ev env k with
      | none => rw [hx, hk] at h; simp [xUpdate] at h
      | some q =>
        cases hv : ev env v with
        | none => rw [hx, hk, hv] at h; simp [xUpdate] at h
        | some r =>
          rw [hx, hk, hv] at h
          obtain ⟨rfl, w', h1, h2⟩ := xUpdate_ok (P := P) (id := id) hT hR h (ev_ok he hx) (ev_ok he hk) (ev_ok he hv)
          exact ⟨m, w', run_u h1, h2⟩
  case insert t x k v =>
    cases hx : ev env x with
    | none => rw [hx] at h; simp [xUpdate] at h
    | some p =>
      cases hk : ev env k with
      | none => rw [hx, hk] at h; simp [xUpdate] at h
      | some q =>
        cases hv : ev env v with
        | none => rw [hx, hk, hv] at h; simp [xUpdate] at h
        | some r =>
          rw [hx, hk, hv] at h
          obtain ⟨rfl, w', h1, h2⟩ := xUpdate_ok (P := P) (id := id) hT hR h (ev_ok he hx) (ev_ok he hk) (ev_ok he hv)
          exact ⟨m, w', run_u h1, h2⟩
  case next it isS =>
    cases isS with
    | false =>
      simp only at h
      cases hx : ev env it with
      | none => rw [hx] at h; simp [xNextM] at h
      | some p =>
        rw [hx] at h
        obtain ⟨v, rfl, hm⟩ := xNextM_ok (P := P) (id := id) (t := type) hR h (ev_ok he hx)
        exact Acts.of_mem hm
    | true =>
      simp only at h
      cases hx : ev env it with
      | none => rw [hx] at h; simp [xNext] at h
      | some p =>
        rw [hx] at h
        obtain ⟨v, rfl, hm⟩ := xNext_ok (P := P) (id := id) (t := type) hR h (ev_ok he hx)
        exact Acts.of_mem hm
  case panic x =>
    cases hx : ev env x with
    | none => rw [hx] at h; simp [xPanic] at h
    | some p =>
      rw [hx] at h
      obtain ⟨v, rfl, rfl, g1, g2⟩ := xPanic_ok (P := P) (w := w) h (ev_ok he hx)
      exact ⟨_, by simp [g1], g2, rfl⟩
  case call c =>
    cases ha : evs env c.args.toList with
    | none => rw [ha] at h; simp [xCalls] at h
    | some args =>
      rw [ha] at h
      have hargs : VRs m args (c.args.map a.eval).toList := by simpa using evs_ok he ha
      simp only [xCalls] at h
      split at h
      · rename_i f hf
        unfold xCall at h
        split at h
        · rename_i k x y hx
          obtain ⟨rfl, rfl⟩ := Prod.mk.inj (Option.some.inj h)
          have := ev_ok he hx
          generalize hq : a.eval f = q at this
          cases this
          rename_i x' y' hyl hx1 hx2 hy1 hy2
          refine ⟨_, x' ++ c.args.map a.eval ++ y', by simp [resolve, hf, hq, Deferred.ofValue, invoke]; rfl, .func _, ?_, rfl⟩
          have h1 := VRs.of_arr hx1 hx2
          have h2 := VRs.of_arr hy1 hy2
          simpa using (h1.append hargs).append h2
        · rename_i b hx
          obtain ⟨rfl, rfl⟩ := Prod.mk.inj (Option.some.inj h)
          have := ev_ok he hx
          generalize hq : a.eval f = q at this
          cases this
          · rename_i hn _ _ _ _; exact absurd rfl (hn _)
          · rename_i l hl
            exact ⟨_, c.args.map a.eval, by simp [resolve, hf, hq, Deferred.ofValue, invoke]; rfl, .yld hl, hargs, rfl⟩
        · cases h
      · cases h
      · rename_i b hf
        obtain ⟨cs, hrun⟩ : ∃ cs, (do let d ← resolve a.eval c type; invoke d.target d.args : Sem Next).run P w = (builtin b c.argTypes type cs (c.args.map a.eval)).run P w := ⟨_, by simp [resolve, hf, invoke]; rfl⟩
        have := xBuiltin_ok (P := P) (ty := type) (cs := cs) hT hR hb hid hargs h
        cases out <;> simp only [Acts, hrun] at this ⊢ <;> exact this
  case defer c =>
    cases ha : evs env c.args.toList with
    | none => rw [ha] at h; simp [xDefer] at h
    | some args =>
      rw [ha] at h
      have hargs : VRs m args (c.args.map a.eval).toList := by simpa using evs_ok he ha
      simp only [xDefer] at h
      split at h
      · rename_i f hf
        split at h
        · rename_i k x y hx
          obtain ⟨rfl, rfl⟩ := Prod.mk.inj (Option.some.inj h)
          have := ev_ok he hx
          generalize hq : a.eval f = q at this
          cases this
          rename_i x' y' hyl hx1 hx2 hy1 hy2
          refine ⟨x' ++ c.args.map a.eval, y', by simp [resolve, hf, hq, Deferred.ofValue], ?_, VRs.of_arr hy1 hy2, rfl, rfl⟩
          simpa using (VRs.of_arr hx1 hx2).append hargs
        · cases h
      · cases h
end
end Go.Proofs.YtkgmpkoamicheaaGreatDoor.M
