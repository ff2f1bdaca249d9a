/- The quick way's answers are the program's: values, operands, memory. No program in it. -/
import Derived.Test.YtkgmpkoamicheaaGreatDoorMd
import Derived.Laws.Cells
import Derived.Laws.Entries
import Derived.Calls
namespace Go.Proofs.YtkgmpkoamicheaaGreatDoor.M

/-- One step of the quick way, and what the world does meanwhile. -/
structure Stp (base : Nat) (m : Mu) (H : AHeap) (w : World) (m' : Mu) (H' : AHeap) (w' : World) (N : Nat → Prop) : Prop where
  ext : Ext m m' N
  rel : R base m' H' w'
  fr : Fr m H w w'
  bk : ∀ b B l, H'.get b = some B → m' b = some l → w.heap.size ≤ l.blk ∨ ∃ c C k, H.get c = some C ∧ m c = some k ∧ k.blk = l.blk
theorem Stp.refl {base : Nat} {m : Mu} {H : AHeap} {w : World} (h : R base m H w) (N : Nat → Prop) : Stp base m H w m H w N :=
  ⟨Ext.refl m N, h, Fr.refl m H w, fun b B l hb hl => .inr ⟨b, B, l, hb, hl, rfl⟩⟩
theorem Stp.trans {base : Nat} {m m1 m2 : Mu} {H H1 H2 : AHeap} {w w1 w2 : World} {N N' N'' : Nat → Prop} (h : Stp base m H w m1 H1 w1 N) (k : Stp base m1 H1 w1 m2 H2 w2 N')
    (h1 : ∀ i, N i → N'' i) (h2 : ∀ i, N' i → N'' i) : Stp base m H w m2 H2 w2 N'' :=
  ⟨h.ext.trans k.ext h1 h2, k.rel, h.fr.trans k.fr h.bk, fun b B l hb hl => by
    rcases k.bk b B l hb hl with h' | ⟨c, C, k', hc, hk, he⟩
    · exact .inl (Nat.le_trans h.fr.size h')
    · rcases h.bk c C k' hc hk with h' | ⟨d, D, k'', hd, hk', he'⟩
      · exact .inl (he ▸ h')
      · exact .inr ⟨d, D, k'', hd, hk', he'.trans he⟩⟩
theorem Stp.weaken {base : Nat} {m m' : Mu} {H H' : AHeap} {w w' : World} {N N' : Nat → Prop} (h : Stp base m H w m' H' w' N) (hn : ∀ i, N i → N' i) : Stp base m H w m' H' w' N' :=
  ⟨⟨h.ext.1, fun b l hb => (h.ext.2 b l hb).imp id (fun x => ⟨x.1, hn _ x.2⟩)⟩, h.rel, h.fr, h.bk⟩

def EqOk (P : Program) (t : TypeId) (d : TypeDesc) : Prop := P.stoodInHeld t = false ∧ P.eqGuardType P.depth t = false ∧ ∀ fs, d = .struct fs → ∀ f ∈ fs.toList, f.name ≠ "_"
def TabOk (P : Program) (T : Tab) : Prop := ∀ t r, T.get t = some r → P.underlying t = some r.und ∧ (∃ i, P.info? t = some i ∧ i.size = r.size ∧ i.bytes = r.bytes ∧ i.zero = r.zero) ∧ (r.eq = true → EqOk P t r.und) ∧ (∀ fs, r.und = .struct fs → ∀ f ∈ fs.toList, ∃ rf, T.get f.type = some rf) ∧ (∀ z, r.zero = some z → z.cells.size = r.size)
def ERel (m : Mu) (nt : Nat) (env : AEnv) (a : Act) : Prop := a.tmps.size = nt ∧ ∀ t v, env.get t = some v → ∃ v', a.tmps[t]? = some v' ∧ VR m v v'
theorem ERel.mono {m m' : Mu} (hm : m.le m') {nt : Nat} {env : AEnv} {a : Act} (h : ERel m nt env a) : ERel m' nt env a :=
  ⟨h.1, fun t v hv => let ⟨v', a, b⟩ := h.2 t v hv; ⟨v', a, b.mono hm⟩⟩

/-! values that lie nowhere -/
theorem plainAll_mem : ∀ {l : List Value}, plainAll l = true → ∀ v ∈ l, plain1 v = true
  | [], _, v, h => by cases h
  | u :: l, h, v, hv => by
    simp only [plainAll, Bool.and_eq_true] at h
    cases hv with
    | head => exact h.1
    | tail _ hv => exact plainAll_mem h.2 v hv
theorem plain1_VR (m : Mu) : ∀ {v : Value}, plain1 v = true → VR m v v := by
  intro v h
  unfold plain1 at h
  split at h
  · exact .bool _
  · exact .int _ _
  · exact .string _
  · exact .nilp
  · exact .nils _ _
  · exact .nilm
  · exact .nilf
  · exact .nili
  · rename_i fn x y
    simp only [Bool.and_eq_true, List.isEmpty_iff, Bool.not_eq_true', Array.toList_eq_nil_iff] at h
    obtain ⟨⟨rfl, rfl⟩, h3⟩ := h
    exact .func (fun l e => by subst e; simp [isYield] at h3) rfl (fun i a => by simp at a) rfl (fun i a => by simp at a)
  · cases h
theorem plainAll_VRs (m : Mu) {l : List Value} (h : plainAll l = true) : VRs m l l := ⟨rfl, fun i v hv => ⟨v, hv, plain1_VR m (plainAll_mem h v (List.mem_of_getElem? hv))⟩⟩
theorem plain2_VR (m : Mu) {v : Value} (h : plain2 v = true) : VR m v v := by
  unfold plain2 at h
  split at h
  · exact VR.agg' (plainAll_VRs m h)
  · exact VR.tuple' (plainAll_VRs m h)
  · exact plain1_VR m h
theorem plainV_VR (m : Mu) {v : Value} (h : plainV v = true) : VR m v v := by
  unfold plainV at h
  split at h
  · exact .iface (plain2_VR m h)
  · exact plain2_VR m h

/-! operands -/
section
variable {m : Mu} {nt : Nat} {env : AEnv} {a : Act}
theorem ev_ok (he : ERel m nt env a) {x : Operand} {v : Value} (h : ev env x = some v) : VR m v (a.eval x) := by
  cases x with
  | tmp t =>
    obtain ⟨v', h1, h2⟩ := he.2 t v h
    have h1' : a.tmps[t]? = some v' := h1
    show VR m v (a.tmps.getD t undef)
    rw [Array.getD_eq_getD_getElem?, h1', Option.getD_some]
    exact h2
  | const u =>
    simp only [ev] at h
    split at h
    · rename_i hp
      obtain rfl := Option.some.inj h
      exact plainV_VR m hp
    · cases h
  | global g => cases h
  | func f =>
    obtain rfl := Option.some.inj h
    exact .func (fun l => by simp) rfl (fun i a => by simp at a) rfl (fun i a => by simp at a)
theorem evs_ok (he : ERel m nt env a) : ∀ {l : List Operand} {vs : List Value}, evs env l = some vs → VRs m vs (l.map a.eval)
  | [], vs, h => by obtain rfl := Option.some.inj h; exact .nil m
  | x :: l, vs, h => by
    simp only [evs] at h
    split at h
    · cases h
    · rename_i v hv
      split at h
      · cases h
      · rename_i us hus
        obtain rfl := Option.some.inj h
        exact .cons (ev_ok he hv) (evs_ok he hus)
theorem put_ok (he : ERel m nt env a) {dst : Option Tmp} {v v' : Value} {env' : AEnv} (h : putT nt env dst v = some env') (hv : VR m v v') : ERel m nt env' (a.put dst v') := by
  cases dst with
  | none => obtain rfl := Option.some.inj h; exact he
  | some d =>
    simp only [putT] at h
    split at h
    · rename_i hd
      obtain rfl := Option.some.inj h
      refine ⟨by simp [Act.put, he.1], fun t u hu => ?_⟩
      rw [Tr.get_set] at hu
      by_cases ht : t = d
      · rw [if_pos ht] at hu
        obtain rfl := Option.some.inj hu
        subst ht
        exact ⟨v', by simp [Act.put, he.1, hd], hv⟩
      · rw [if_neg ht] at hu
        obtain ⟨u', h1, h2⟩ := he.2 t u hu
        exact ⟨u', by simp only [Act.put]; rw [Array.getElem?_setIfInBounds_ne (Ne.symm ht)]; exact h1, h2⟩
    · cases h
end
theorem VR.undef (m : Mu) : VR m Go.undef Go.undef := VR.tuple' (.nil m)
theorem undef_eq : Go.undef = Value.tuple #[] := rfl

/-! types -/
section
variable {P : Program} {T : Tab}
theorem TabOk.und (h : TabOk P T) {t : TypeId} {r : TyRow} (hr : T.get t = some r) (w : World) : (underlying t).run P w = .ok r.und w := run_underlying (h t r hr).1 w
theorem TabOk.info (h : TabOk P T) {t : TypeId} {r : TyRow} (hr : T.get t = some r) (w : World) : ∃ i, (typeInfo t).run P w = .ok i w ∧ i.size = r.size ∧ i.bytes = r.bytes ∧ i.zero = r.zero := by
  obtain ⟨_, ⟨i, hi, h1, h2, h3⟩, _⟩ := h t r hr
  exact ⟨i, by simp [typeInfo, hi], h1, h2, h3⟩
theorem TabOk.size (h : TabOk P T) {t : TypeId} {r : TyRow} (hr : T.get t = some r) (w : World) : (sizeOf t).run P w = .ok r.size w := by
  obtain ⟨i, hi, h1, _⟩ := h.info hr w
  simp [sizeOf, hi, h1]
theorem TabOk.zero (h : TabOk P T) {t : TypeId} {r : TyRow} (hr : T.get t = some r) {z : Value} (hz : r.zero = some z) (w : World) : (zeroValue t).run P w = .ok z w := by
  obtain ⟨i, hi, _, _, h3⟩ := h.info hr w
  simp [zeroValue, hi, h3, hz]
theorem TabOk.agg (h : TabOk P T) {t : TypeId} {r : TyRow} (hr : T.get t = some r) (w : World) : (Go.isAgg t).run P w = .ok (M.isAgg r.und) w := by
  have := h.und hr w
  simp only [Go.isAgg, Sem.run_bind, this, Result.andThen_ok, M.isAgg]
  generalize r.und = d
  cases d <;> rfl
end
end Go.Proofs.YtkgmpkoamicheaaGreatDoor.M
