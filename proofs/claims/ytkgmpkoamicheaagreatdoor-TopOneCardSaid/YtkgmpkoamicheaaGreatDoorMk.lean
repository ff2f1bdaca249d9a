/- The quick way's answers are the program's: parts, addresses, bounds, lookups. No program in it. -/
import Derived.Test.YtkgmpkoamicheaaGreatDoorMj
namespace Go.Proofs.YtkgmpkoamicheaaGreatDoor.M
section
variable {P : Program} {T : Tab} {base : Nat} {m : Mu} {H : AHeap} {w : World}
/-- an operation that yields a value and leaves the world -/
def Yld (P : Program) (m : Mu) (w : World) (s : Sem Value) (v : Value) : Prop := ∃ v', s.run P w = .ok v' w ∧ VR m v v'

theorem xIface_ok (hT : TabOk P T) {t : TypeId} {x v x' : Value} (h : xIface T t x = some v) (hx : VR m x x') : Yld P m w (Instr.makeInterface t x') v := by
  unfold xIface at h
  split at h
  · rename_i r hr
    have hu := hT.und hr w
    split at h
    · cases h
    · rename_i hn
      obtain rfl := Option.some.inj h
      refine ⟨.iface t x', ?_, .iface hx⟩
      simp only [Instr.makeInterface, Sem.run_bind, hu, Result.andThen_ok]
      generalize hd : r.und = d
      rw [hd] at hn
      cases d <;> first | rfl | exact absurd rfl (hn _)
  · cases h
theorem xFunc_ok {fn : Fn} {xs ys : List Value} {v : Value} {xs' ys' : Array Value} (h : xFunc fn (some xs) (some ys) = some v) (hx : VRs m xs xs'.toList) (hy : VRs m ys ys'.toList) : Yld P m w (Instr.makeFunc fn xs' ys') v := by
  simp only [xFunc] at h
  split at h
  · cases h
  · rename_i hf
    obtain rfl := Option.some.inj h
    refine ⟨.func fn xs' ys', rfl, ?_⟩
    have a := VRs.arr (x := ⟨xs⟩) hx
    have b := VRs.arr (x := ⟨ys⟩) hy
    exact .func (fun l e => by subst e; simp [isYield] at hf) a.1 a.2 b.1 b.2
theorem fieldOf_ok (hT : TabOk P T) {s : TypeId} {f : Nat} {fd : Field} (h : fieldOf T s f = some fd) (w : World) : ∃ fs : Array Field, (underlying s).run P w = .ok (.struct fs) w ∧ fs[f]? = some fd := by
  unfold fieldOf at h
  split at h
  · rename_i r hr
    have hu := hT.und hr w
    split at h
    · rename_i fs e
      exact ⟨fs, by rw [hu, e], by simpa using h⟩
    · cases h
  · cases h
theorem xFieldAddr_ok (hT : TabOk P T) {s : TypeId} {f : Nat} {x v x' : Value} (h : xFieldAddr T s f (some x) = some v) (hx : VR m x x') : Yld P m w (Instr.fieldAt s x' f) v := by
  unfold xFieldAddr at h
  split at h
  case h_2 => cases h
  rename_i b o e
  obtain rfl := Option.some.inj e
  obtain ⟨l, hl, rfl⟩ := hx.ptr_inv
  split at h
  case h_2 => cases h
  rename_i fd hf
  obtain ⟨fs, h1, h2⟩ := fieldOf_ok hT hf w
  split at h
  case h_2 => cases h
  rename_i rf hrf
  have hs := hT.size hrf w
  split at h
  · cases h
  · rename_i hz
    obtain rfl := Option.some.inj h
    refine ⟨.pointer (some ⟨l.blk, l.off + (o + fd.offset), none⟩), ?_, .ptr hl⟩
    simp [Instr.fieldAt, h1, h2, Instr.sureAddr, fieldPlace, hs, hz, add_none, Nat.add_assoc]
theorem xField_ok (hT : TabOk P T) {s : TypeId} {f : Nat} {x v x' : Value} (h : xField T s f (some x) = some v) (hx : VR m x x') : Yld P m w (Instr.field s x' f) v := by
  unfold xField at h
  split at h
  case h_2 => cases h
  rename_i cs e
  obtain rfl := Option.some.inj e
  cases hx
  rename_i cs' g1 g2
  split at h
  case h_2 => cases h
  rename_i fd hf
  obtain ⟨fs, h1, h2⟩ := fieldOf_ok hT hf w
  split at h
  case h_2 => cases h
  rename_i rf hrf
  obtain ⟨v', h3, h4⟩ := part_ok (w := w) hT hrf (VRs.of_arr g1 g2) h
  exact ⟨v', by simp [Instr.field, h1, h2, asAgg, h3], h4⟩
theorem VR.sl_inv {b o n c : Nat} {v : Value} (h : VR m (.slice (some ⟨b, o, none⟩) n c) v) : ∃ l o' c', m b = some l ∧ v = .slice (some ⟨l.blk, o', none⟩) n c' ∧ c ≤ c' ∧
    ((l.fin = none ∧ o' = l.off + o ∧ c' = c) ∨ ∃ sz e, l.fin = some (sz, e) ∧ n ≤ c ∧ (c' = 0 ∨ (o' = l.off + o ∧ o' + c' * sz ≤ e))) := by
  cases h
  · exact ⟨_, _, _, ‹_›, rfl, Nat.le_refl _, .inl ⟨‹_›, rfl, rfl⟩⟩
  · exact ⟨_, _, _, ‹_›, rfl, ‹_›, .inr ⟨_, _, ‹_›, ‹_›, ‹_›⟩⟩
theorem xIndexAddr_ok (hT : TabOk P T) {t : TypeId} {x i v x' i' : Value} (h : xIndexAddr T t (some x) (some i) = some v) (hx : VR m x x') (hi : VR m i i') : Yld P m w (Instr.indexAt t x' i') v := by
  unfold xIndexAddr at h
  split at h
  · rename_i b o n c kd k e1 e2
    obtain rfl := Option.some.inj e1
    obtain rfl := Option.some.inj e2
    cases hi
    obtain ⟨l, o', c', hl, rfl, hcc, hor⟩ := hx.sl_inv
    split at h
    case h_2 => cases h
    rename_i r hr
    have hu := hT.und hr w
    split at h
    case h_2 => cases h
    rename_i e he
    split at h
    case h_2 => cases h
    rename_i re hre
    have hs := hT.size hre w
    split at h
    case isFalse => cases h
    rename_i hk
    obtain rfl := Option.some.inj h
    have ho : o' = l.off + o := by
      rcases hor with ⟨_, h1, _⟩ | ⟨sz, f, _, hn, h1 | h1⟩
      · exact h1
      · omega
      · exact h1.1
    subst ho
    refine ⟨.pointer (some ⟨l.blk, l.off + (o + k.toNat * re.size), none⟩), ?_, .ptr hl⟩
    simp [Instr.indexAt, asIntOf, hu, he, hs, hk, add_none, Nat.add_assoc]
  · rename_i b o kd k e1 e2
    obtain rfl := Option.some.inj e1
    obtain rfl := Option.some.inj e2
    cases hi
    obtain ⟨l, hl, rfl⟩ := hx.ptr_inv
    split at h
    case h_2 => cases h
    rename_i r hr
    have hu := hT.und hr w
    split at h
    case h_2 => cases h
    rename_i n e he
    split at h
    case h_2 => cases h
    rename_i re hre
    have hs := hT.size hre w
    split at h
    case isFalse => cases h
    rename_i hk
    obtain rfl := Option.some.inj h
    refine ⟨.pointer (some ⟨l.blk, l.off + (o + k.toNat * re.size), none⟩), ?_, .ptr hl⟩
    simp [Instr.indexAt, asIntOf, hu, he, hs, hk, add_none, Nat.add_assoc, Instr.sureAddr]
  · cases h
theorem xIndex_ok (hT : TabOk P T) {t : TypeId} {x i v x' i' : Value} (h : xIndex T t (some x) (some i) = some v) (hx : VR m x x') (hi : VR m i i') : Yld P m w (Instr.index t x' i') v := by
  unfold xIndex at h
  split at h
  · rename_i s kd k e1 e2
    obtain rfl := Option.some.inj e1
    obtain rfl := Option.some.inj e2
    cases hi; cases hx
    split at h
    case h_2 => cases h
    rename_i r hr
    have hu := hT.und hr w
    split at h
    case h_2 => cases h
    rename_i he
    split at h
    case isFalse => cases h
    rename_i hk
    split at h
    case h_2 => cases h
    rename_i c hc
    obtain rfl := Option.some.inj h
    refine ⟨.int .u8 c.toNat, ?_, .int _ _⟩
    have hlt : k.toNat < s.size := by
      have := (List.getElem?_eq_some_iff.1 hc).1
      simpa using this
    have hc' : s[k.toNat]? = some c := by
      have h1 := (List.getElem?_eq_some_iff.1 hc).2
      rw [getElem?_pos s k.toNat hlt]
      rw [← h1]
      rfl
    simp [Instr.index, asIntOf, hu, he, hk, hc']
  · rename_i cs kd k e1 e2
    obtain rfl := Option.some.inj e1
    obtain rfl := Option.some.inj e2
    cases hi; cases hx
    rename_i cs' g1 g2
    split at h
    case h_2 => cases h
    rename_i r hr
    have hu := hT.und hr w
    split at h
    case h_2 => cases h
    rename_i n e he
    split at h
    case h_2 => cases h
    rename_i re hre
    have hs := hT.size hre w
    split at h
    case isFalse => cases h
    rename_i hk
    obtain ⟨v', h3, h4⟩ := part_ok (w := w) hT hre (VRs.of_arr g1 g2) h
    exact ⟨v', by simp [Instr.index, asIntOf, hu, he, hk, hs, h3], h4⟩
  · cases h
theorem xExtract_ok {i : Nat} {x v x' : Value} (h : xExtract i (some x) = some v) (hx : VR m x x') : Yld P m w (Instr.extract x' i) v := by
  unfold xExtract at h
  split at h
  · rename_i vs e
    obtain rfl := Option.some.inj e
    cases hx
    rename_i vs' g1 g2
    obtain ⟨v', h1, h2⟩ := (VRs.of_arr g1 g2).2 i v h
    have h1' : vs'[i]? = some v' := by simpa using h1
    exact ⟨v', by simp [Instr.extract, h1'], h2⟩
  · cases h
theorem pair_VR {a b a' b' : Value} (h1 : VR m a a') (h2 : VR m b b') : VR m (.tuple #[a, b]) (.tuple #[a', b']) := VR.tuple' (.cons h1 (.cons h2 (.nil m)))
theorem zeroNo_ok (hT : TabOk P T) {t : TypeId} {r : TyRow} (hr : T.get t = some r) {v : Value} (h : zeroNo r = some v) : ∃ z, (zeroValue t).run P w = .ok z w ∧ v = .tuple #[z, .bool false] ∧ VR m v v := by
  unfold zeroNo at h
  split at h
  · rename_i z hz
    split at h
    · rename_i hp
      obtain rfl := Option.some.inj h
      exact ⟨z, hT.zero hr hz w, rfl, pair_VR (plainV_VR m hp) (.bool _)⟩
    · cases h
  · cases h
theorem xAssert_ok (hT : TabOk P T) {t xt : TypeId} {ok : Bool} {x v x' : Value} (h : xAssert T t ok (some x) = some v) (hx : VR m x x') : Yld P m w (Instr.typeAssert x' xt t ok) v := by
  simp only [xAssert] at h
  split at h
  case h_2 => cases h
  rename_i r hr
  have hu := hT.und hr w
  split at h
  · cases h
  · rename_i hni
    cases hx
    split at h
    · rename_i hok
      obtain ⟨z, h1, h2, h3⟩ := zeroNo_ok (m := m) (w := w) hT hr h
      refine ⟨v, ?_, h3⟩
      simp only [Instr.typeAssert, Sem.run_bind, hu, Result.andThen_ok]
      generalize hd : r.und = d at hni
      cases d <;> first | exact absurd rfl (hni _) | simp [hok, h1, h2]
    · cases h
  · rename_i tt u hni
    cases hx
    rename_i u' hu'
    split at h
    · rename_i htt
      obtain rfl := Option.some.inj h
      refine ⟨if ok then .tuple #[u', .bool true] else u', ?_, ?_⟩
      · simp only [Instr.typeAssert, Sem.run_bind, hu, Result.andThen_ok]
        generalize hd : r.und = d at hni
        cases d <;> first | exact absurd rfl (hni _) | simp [htt]
      · split
        · exact pair_VR hu' (.bool _)
        · exact hu'
    · rename_i htt
      split at h
      · rename_i hok
        obtain ⟨z, h1, h2, h3⟩ := zeroNo_ok (m := m) (w := w) hT hr h
        refine ⟨v, ?_, h3⟩
        simp only [Instr.typeAssert, Sem.run_bind, hu, Result.andThen_ok]
        generalize hd : r.und = d at hni
        cases d <;> first | exact absurd rfl (hni _) | simp [htt, hok, h1, h2]
      · cases h
  · cases h
end
end Go.Proofs.YtkgmpkoamicheaaGreatDoor.M
