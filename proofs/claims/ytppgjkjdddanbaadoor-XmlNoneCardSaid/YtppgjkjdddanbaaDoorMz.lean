/- The quick way's answers are the program's: regions in any order, and all code. No program in it. -/
import Derived.Test.YtppgjkjdddanbaaDoorMy
namespace Go.Proofs.YtppgjkjdddanbaaDoor.M
section
variable {P : Program} {T : Tab} {C : CallF} {nt : Nat} {ops : Array Oper} {st : Nat} {env0 : AEnv} {H0 : AHeap} {rs : List Rec}

/-- how it stands behind the operations D -/
structure AI (T : Tab) (nt st : Nat) (env0 : AEnv) (H0 : AHeap) (rs : List Rec) (ds : List ADef) (base : Nat) (m0 : Mu) (w0 : World) (D : Nat → Bool) (m : Mu) (a : Act) (w : World) : Prop where
  rel : R base m (hD T H0 rs D) w
  size : a.tmps.size = nt
  tm : ∀ t v, wr env0 (rs.filter fun q => D q.i) t = some v → ∃ v', a.tmps[t]? = some v' ∧ VR m v v'
  ds : DRs m ds a.defers
  stp : Stp base m0 H0 w0 m (hD T H0 rs D) w (fun b => ¬ Used st (fun _ => False) H0.next b)
  used : ∀ b l, m b = some l → Used st (fun j => D j = true) (hD T H0 rs D).next b
  next : H0.next ≤ (hD T H0 rs D).next

theorem any_step (hT : TabOk P T) (hC : CallOk P C) (h : Seen T nt C ops.toList st env0 H0 rs) (hst : st < H0.next) {ds : List ADef} {base : Nat} {m0 : Mu} {w0 : World} (hb : base ≤ w0.heap.size)
    {D D' : Nat → Bool} {x y : List Rec} {r : Rec} (hDn : Down ops.toList D) (e : rs = x ++ r :: y) (hr : Rdy ops.toList D r.i) (hn : D r.i = false) (hD' : ∀ j, D' j = (D j || j == r.i))
    {m : Mu} {a : Act} {w : World} (hA : AI T nt st env0 H0 rs ds base m0 w0 D m a w) {K : Act → World → Prop} {Q : Exit → Act → World → Prop}
    (hK : ∀ m' a' w', AI T nt st env0 H0 rs ds base m0 w0 D' m' a' w' → K a' w') : wpOp P ops Q r.i K a w := by
  have hw := h.way x r y e
  have ho : ops[r.i]? = some r.o := by have := h.at e; simpa using this
  have he : ERel m nt r.e a := ⟨hA.size, fun t v ht => by
    obtain ⟨h1, h2⟩ := hw.env t v ht
    exact hA.tm t v (by rw [W1 h hDn e hr hn h1]; exact h2)⟩
  obtain ⟨en, H', hs, hH', hen⟩ : ∃ en H', opStep T nt C ops.toList st r.i r.o ⟨r.e, hD T H0 rs D, []⟩ = some (none, ⟨en, H', []⟩) ∧ H' = hD T H0 rs D' ∧ (∀ d v, r.o.dst = some d → r.s.env.get d = some v → en.get d = some v) := by
    cases hf : isFloat T r.o.op
    · have h1 : hD T H0 rs D = hp H0 x := by
        unfold hD
        rw [E1 h hDn e hr hn hf, ← hp_eff h _ x (r :: y) rfl e]
      refine ⟨r.s.env, r.s.H, by rw [h1]; exact hw.step, ?_, fun d v _ hv => hv⟩
      rw [hD_set h hDn e hr hn hD', hf]; rfl
    · have ha := again_at h hDn e hr hn hf
      unfold againOk at ha
      split at ha
      · rename_i en H' hs
        have hH := opStep_float hf hs
        refine ⟨en, H', hs, ?_, fun d v hd hv => ?_⟩
        · rw [hD_set h hDn e hr hn hD', if_pos hf]; exact hH
        · rw [hd] at ha
          obtain ⟨u, h1, h2⟩ := oEq_eq ha
          rw [h1] at hv
          cases hv
          exact h2
      · cases ha
  unfold wpOp
  rw [ho]
  have key := opStep_ok (Q := Q) (K := K) (S := fun j => D j = true) hT hC hs hA.rel (Nat.le_trans hb hA.stp.fr.size) he (by simp [hn]) hA.used (Nat.lt_of_lt_of_le hst hA.next)
    (fun m' a' w' _ did he' htm hds => hK m' a' w' ?_) (fun v _ _ _ hpv => by cases hpv)
  · show if Region.wanted r.o (yielded ops a.tmps) = true then _ else _
    split
    · rename_i hwn; rw [if_pos hwn] at key; exact .inl key
    · rename_i hwn; rw [if_neg hwn] at key; exact key
  · subst hH'
    refine ⟨did.stp.rel, he'.1, fun t v hv => ?_, ?_, ?_, fun b l hbl => ?_, Nat.le_trans hA.next did.next⟩
    · rw [W2 h hDn e hn hD'] at hv
      split at hv
      · rename_i hd
        exact he'.2 t v (hen t v hd hv)
      · rename_i hd
        obtain ⟨u, h1, h2⟩ := hA.tm t v hv
        obtain ⟨v', htm⟩ := htm
        refine ⟨u, ?_, h2.mono did.stp.ext.1⟩
        rw [htm]
        cases hdd : r.o.dst with
        | none => exact h1
        | some d =>
          have hne : d ≠ t := fun q => hd (by rw [hdd, q])
          show (a.tmps.setIfInBounds d v')[t]? = some u
          rw [Array.getElem?_setIfInBounds_ne hne]; exact h1
    · rcases hds with ⟨_, h2⟩ | ⟨d, d', h1, _⟩
      · rw [h2]; exact hA.ds.mono did.stp.ext.1
      · cases h1
    · exact hA.stp.trans did.stp (fun _ h => h) (fun b hb hub => hb (hub.mono (fun _ q => q.elim) hA.next))
    · refine (did.used b l hbl).mono (fun j hj => ?_) (Nat.le_refl _)
      show D' j = true
      rw [hD']
      rcases hj with h1 | h1
      · simp [show D j = true from h1]
      · simp [h1]

theorem mem_ready {listed : Array Bool} {i : Nat} : i ∈ Region.ready .any ops listed ↔ i < ops.size ∧ listed.getD i true = false ∧ ∃ o, ops[i]? = some o ∧ ∀ x ∈ direct o, listed.getD x false = true := by
  unfold Region.ready
  rw [List.mem_filter, List.mem_range]
  constructor
  · rintro ⟨h1, h2⟩
    simp only [Bool.and_eq_true, Bool.not_eq_true'] at h2
    refine ⟨h1, h2.1, ops[i], by simp [h1], fun x hx => ?_⟩
    have h3 := h2.2
    simp only [Array.getElem?_eq_getElem h1, Option.map_some, Option.getD_some] at h3
    obtain ⟨ed, hed, rfl⟩ := List.mem_map.1 hx
    obtain ⟨hm, hbd⟩ := List.mem_filter.1 hed
    have := (Array.all_eq_true_iff_forall_mem.1 h3) ed (by simpa using hm)
    rw [hbd] at this
    simpa using this
  · rintro ⟨h1, h2, o, ho, h3⟩
    refine ⟨h1, ?_⟩
    rw [h2, ho]
    simp only [Bool.not_false, Bool.true_and, Option.map_some, Option.getD_some]
    refine Array.all_eq_true_iff_forall_mem.2 fun ed hed => ?_
    cases hbd : Region.binds .any ed
    · rfl
    · simp only [Bool.not_true, Bool.false_or]
      exact h3 ed.on (List.mem_map.2 ⟨ed, List.mem_filter.2 ⟨by simpa using hed, hbd⟩, rfl⟩)
def unl (n : Nat) (listed : Array Bool) : Nat := ((List.range n).filter fun j => !listed.getD j true).length

theorem any_ok (hT : TabOk P T) (hC : CallOk P C) (h : Seen T nt C ops.toList st env0 H0 rs) (hst : st < H0.next) {ds : List ADef} {base : Nat} {m0 : Mu} {w0 : World} (hb : base ≤ w0.heap.size)
    {Q : Exit → Act → World → Prop} (hQ : ∀ D m a w, (∀ j, j < ops.size → D j = true) → AI T nt st env0 H0 rs ds base m0 w0 D m a w → Q .normal a w) :
    ∀ (fuel : Nat) (listed : Array Bool) (m : Mu) (a : Act) (w : World), listed.size = ops.size → unl ops.size listed ≤ fuel → Down ops.toList (fun j => listed.getD j false) → AI T nt st env0 H0 rs ds base m0 w0 (fun j => listed.getD j false) m a w →
      wpAny P .any ops Q fuel listed a w := by
  have tf : ∀ (listed : Array Bool), listed.size = ops.size → ∀ j, j < ops.size → listed.getD j true = listed.getD j false := fun listed hs j hj => by
    rw [Array.getD_eq_getD_getElem?, Array.getD_eq_getD_getElem?, Array.getElem?_eq_getElem (by omega)]; rfl
  have allOf : ∀ (listed : Array Bool), listed.size = ops.size → Region.ready .any ops listed = [] → ∀ j, j < ops.size → listed.getD j false = true := by
    intro listed hs hr j
    induction j using Nat.strongRecOn with
    | _ j ih =>
      intro hj
      cases hl : listed.getD j false
      · exfalso
        have : j ∈ Region.ready .any ops listed := mem_ready.2 ⟨hj, by rw [tf listed hs j hj]; exact hl, ops[j], by simp [hj], fun x hx => by
          have := (fits_ok h.fits j ops[j] (by simp [hj])).1 x hx
          rw [Nat.zero_add] at this
          exact ih x this (Nat.lt_trans this hj)⟩
        rw [hr] at this
        cases this
      · rfl
  intro fuel
  induction fuel with
  | zero =>
    intro listed m a w hs hu hDn hA
    have hall : ∀ j, j < ops.size → listed.getD j false = true := fun j hj => by
      cases hl : listed.getD j false
      · exfalso
        have : j ∈ (List.range ops.size).filter fun j => !listed.getD j true := List.mem_filter.2 ⟨List.mem_range.2 hj, by rw [tf listed hs j hj, hl]; rfl⟩
        have := List.length_pos_of_mem this
        unfold unl at hu
        omega
      · rfl
    refine ⟨?_, hQ _ m a w hall hA⟩
    rw [List.eq_nil_iff_forall_not_mem]
    intro i hi
    obtain ⟨h1, h2, _⟩ := mem_ready.1 hi
    rw [tf listed hs i h1, hall i h1] at h2
    cases h2
  | succ fuel ih =>
    intro listed m a w hs hu hDn hA
    refine ⟨fun hr => hQ _ m a w (allOf listed hs hr) hA, fun i hi => ?_⟩
    obtain ⟨h1, h2, o, ho, h3⟩ := mem_ready.1 hi
    have hoL : ops.toList[i]? = some o := by simpa using ho
    obtain ⟨x, r, y, e, rfl, rfl⟩ := h.split hoL
    have hrd : Rdy ops.toList (fun j => listed.getD j false) r.i := fun o' ho' x hx => by rw [hoL] at ho'; cases ho'; exact h3 x hx
    have hnl : listed.getD r.i false = false := by rw [← tf listed hs r.i h1]; exact h2
    have hset : ∀ j, (listed.setIfInBounds r.i true).getD j false = (listed.getD j false || j == r.i) := fun j => by
      rw [Array.getD_eq_getD_getElem?, Array.getD_eq_getD_getElem?]
      by_cases hj : j = r.i
      · subst hj
        rw [Array.getElem?_setIfInBounds_self_of_lt (by omega)]
        simp
      · rw [Array.getElem?_setIfInBounds_ne (fun q => hj q.symm)]
        simp [hj]
    refine any_step hT hC h hst hb hDn e hrd hnl hset hA fun m' a' w' hA' => ih _ m' a' w' (by simpa using hs) ?_ ?_ hA'
    · refine Nat.le_of_lt_succ (Nat.lt_of_lt_of_le ?_ hu)
      refine filter_shorter (fun j hj hq => ?_) ⟨r.i, List.mem_range.2 h1, by rw [h2]; rfl, ?_⟩
      · have hj' := List.mem_range.1 hj
        rw [tf _ (by simpa using hs) j hj', hset] at hq
        rw [tf listed hs j hj']
        cases hl : listed.getD j false
        · rfl
        · rw [hl] at hq; cases hq
      · rw [tf _ (by simpa using hs) r.i h1, hset]; simp
    · refine ⟨fun k o' ho' hk z hz => ?_⟩
      show (listed.setIfInBounds r.i true).getD z false = true
      rw [hset]
      have hk' : (listed.setIfInBounds r.i true).getD k false = true := hk
      rw [hset] at hk'
      by_cases hkr : k = r.i
      · subst hkr
        rw [hoL] at ho'; cases ho'
        rw [h3 z hz]; rfl
      · have : listed.getD k false = true := by simpa [hkr] using hk'
        rw [show listed.getD z false = true from hDn.closed k o' ho' this z hz]; rfl

theorem region_any_ok (hm : P.follows .mixedOrders = true) (hT : TabOk P T) (hC : CallOk P C) {id : Nat} {s : St} {r : Ex × St} (h : runAny T nt C ops.toList s = some r) :
    ∀ {base : Nat} {m : Mu} {a : Act} {w : World}, R base m s.H w → base ≤ w.heap.size → SR m nt s a → Fresh m s.H.next → (Code.region id ops true).wp P (Post base m s.H w nt r) a w := by
  intro base m a w hR hb he hf
  unfold runAny at h
  split at h
  · cases h
  rename_i hfits
  split at h
  · cases h
  rename_i rs env H hpass
  split at h
  case h_2 => cases h
  rename_i hfl
  obtain rfl := Option.some.inj h
  obtain ⟨k1, k2, k3, k4⟩ := passAny_ok (env0 := s.env) (H0 := ⟨s.H.next + 1, s.H.blk⟩) ops.toList [] hpass rfl (fun t => by simp [wr]) (by simp [hp])
  simp only [List.nil_append] at k2 k3 k4
  have hseen : Seen T nt C ops.toList s.H.next s.env ⟨s.H.next + 1, s.H.blk⟩ rs := ⟨hfits, k1, k2, hfl⟩
  have hnone : ∀ j, (Array.replicate ops.size false).getD j false = false := fun j => by
    rw [Array.getD_eq_getD_getElem?, Array.getElem?_replicate]
    split <;> rfl
  have hfil : ∀ (l : List Rec), (l.filter fun q => (Array.replicate ops.size false).getD q.i false) = [] := fun l => by
    rw [List.filter_eq_nil_iff]; intro q _; rw [hnone]; simp
  have hH0 : hD T ⟨s.H.next + 1, s.H.blk⟩ rs (fun j => (Array.replicate ops.size false).getD j false) = ⟨s.H.next + 1, s.H.blk⟩ := by
    unfold hD; rw [hfil]; rfl
  refine wp_region_any hm (any_ok (ds := s.ds) (base := base) (m0 := m) (w0 := { w with drawn := w.drawn + 1 }) hT hC hseen (Nat.lt_succ_self _) hb ?_ ops.size _ m a _ (by simp) (by unfold unl; exact Nat.le_trans (List.length_filter_le ..) (by simp)) ⟨fun k o _ hk => by have hk' := (hnone k).symm.trans hk; cases hk'⟩ ?_)
  · intro D m' a' w' hall hA
    have hlt : ∀ q ∈ rs, D q.i = true := fun q hq => by
      obtain ⟨x, y, e⟩ := List.append_of_mem hq
      have := hseen.at e
      refine hall q.i ?_
      rcases Nat.lt_or_ge q.i ops.size with z | z
      · exact z
      · rw [List.getElem?_eq_none (by simpa using z)] at this; cases this
    have h1 : (rs.filter fun q => D q.i) = rs := List.filter_eq_self.2 hlt
    have h2 : hD T ⟨s.H.next + 1, s.H.blk⟩ rs D = H := by
      unfold hD
      rw [List.filter_eq_self.2 fun q hq => hlt q (List.mem_filter.1 hq).1, ← hp_eff hseen _ rs [] rfl (by simp), k4]
    have hnx := hA.next
    have hrel := hA.rel
    have hstp := hA.stp
    have hus := hA.used
    rw [h2] at hnx hstp hus
    refine region_post (r := (.normal, ⟨env, H, s.ds⟩)) hf trivial ⟨⟨hA.size, fun t v hv => hA.tm t v (by rw [h1, ← k3 t]; exact hv)⟩, hA.ds⟩ ?_ hus hnx
    exact ⟨hstp.ext, hstp.rel, ⟨hstp.fr.os, hstp.fr.tape, hstp.fr.output, hstp.fr.size, hstp.fr.keep⟩, hstp.bk⟩
  · have hR' : R base m ⟨s.H.next + 1, s.H.blk⟩ { w with drawn := w.drawn + 1 } := ⟨hR.live, hR.inj⟩
    refine ⟨by rw [hH0]; exact hR', he.env.1, fun t v hv => ?_, he.ds, by rw [hH0]; exact Stp.refl hR' _, fun b l hbl => .inl (hf b l hbl), by rw [hH0]; exact Nat.le_refl _⟩
    rw [hfil] at hv
    exact he.env.2 t v (by simpa [wr] using hv)
theorem run_ok (hm : P.follows .mixedOrders = true) (hT : TabOk P T) {C : CallF} (hC : CallOk P C) {nt : Nat} : ∀ (n : Nat) (c : Code) (s : St) (r : Ex × St), run T nt C n c s = some r → Good P nt c s r :=
  run_ok_of hT hC fun h => region_any_ok hm hT hC h
end
end Go.Proofs.YtppgjkjdddanbaaDoor.M
