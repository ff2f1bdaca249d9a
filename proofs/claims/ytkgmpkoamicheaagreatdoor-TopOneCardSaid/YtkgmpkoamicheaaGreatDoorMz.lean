/- The quick way's answers are the program's: regions in any order, and all code. No program in it. -/
import Derived.Test.YtkgmpkoamicheaaGreatDoorMxe
namespace Go.Proofs.YtkgmpkoamicheaaGreatDoor.M
section
variable {P : Program} {T : Tab} {C : CallF} {nt : Nat} {ops : Array Oper} {st : Nat} {env0 : AEnv} {H0 : AHeap} {rs : List Rec}

/-- memory that was laid, and that no operation looked at that changes something -/
def Pd (T : Tab) (L : List Oper) (D : Nat → Bool) (j : Nat) (e : TypeId) (B : ABlk) : Prop :=
  ∃ p d, L[j]? = some p ∧ p.op = .alloc e ∧ p.dst = some d ∧ D j = true ∧ zeroBlk T e = some B ∧ ∀ k o, L[k]? = some o → D k = true → isFl T o.op = false → memN d (looks L o) = false
def NotIn (m : Mu) (H : AHeap) (n : Nat) : Prop := ∀ b B k, H.get b = some B → m b = some k → k.blk ≠ n
/-- how it stands behind the operations D -/
structure AI (T : Tab) (L : List Oper) (nt : Nat) (C : CallF) (st : Nat) (env0 : AEnv) (H0 : AHeap) (rs : List Rec) (ds : List ADef) (base : Nat) (m0 : Mu) (w0 : World) (D : Nat → Bool) (m : Mu) (a : Act) (w : World) : Prop where
  rel : R base m (hD T nt C L st H0 rs D) w
  size : a.tmps.size = nt
  tm : ∀ t v, wr env0 (rs.filter fun q => D q.i) t = some v → ∃ v', a.tmps[t]? = some v' ∧ VR m v v'
  ds : DRs m ds a.defers
  stp : Stp base m0 H0 w0 m (hD T nt C L st H0 rs D) w (fun b => ¬ Used st (fun _ => False) H0.next b)
  used : ∀ b l, m b = some l → Used st (fun j => D j = true) (hD T nt C L st H0 rs D).next b
  next : H0.next ≤ (hD T nt C L st H0 rs D).next
  pend : ∀ j e B, Pd T L D j e B → ∃ l, m (idOf st j) = some l ∧ w0.heap.size ≤ l.blk ∧ l.blk < w.heap.size ∧ BR m w l B ∧ NotIn m (hD T nt C L st H0 rs D) l.blk
  apart : ∀ j e B j' e' B' l l', Pd T L D j e B → Pd T L D j' e' B' → j ≠ j' → m (idOf st j) = some l → m (idOf st j') = some l' → l.blk ≠ l'.blk

theorem R.adopt {base : Nat} {m : Mu} {H : AHeap} {w : World} (h : R base m H w) {b : Nat} {B : ABlk} {l : Loc} (hl : m b = some l) (h1 : base ≤ l.blk) (hB : BR m w l B) (hn : NotIn m H l.blk) : R base m (H.put b (some B)) w := by
  refine ⟨fun c C hc => ?_, fun c d C D k k' h1 h2 h3 h4 h5 => ?_⟩
  · rw [AHeap.get_put] at hc
    split at hc
    · rename_i e; subst e
      obtain rfl := Option.some.inj hc
      exact ⟨l, hl, h1, hB⟩
    · exact h.live c C hc
  · rw [AHeap.get_put] at h1 h2
    by_cases e1 : c = b <;> by_cases e2 : d = b
    · rw [e1, e2]
    · rw [if_neg e2] at h2
      subst e1
      rw [hl] at h3
      obtain rfl := Option.some.inj h3
      exact absurd h5.symm (hn d D k' h2 h4)
    · rw [if_neg e1] at h1
      subst e2
      rw [hl] at h4
      obtain rfl := Option.some.inj h4
      exact absurd h5 (hn c C k h1 h3)
    · rw [if_neg e1] at h1
      rw [if_neg e2] at h2
      exact h.inj c d C D k k' h1 h2 h3 h4 h5
/-- wanted by this test, of a row that begins at the place j0 -/
def Wnt (T : Tab) (want : Tmp → Bool) (l : List Oper) (k : Nat) (B : ABlk) : Prop := ∃ p e d, l[k]? = some p ∧ p.op = .alloc e ∧ p.dst = some d ∧ want d = true ∧ zeroBlk T e = some B
theorem mater_ok {T : Tab} {base : Nat} {m : Mu} {w : World} {st : Nat} {want : Tmp → Bool} : ∀ (l : List Oper) (j0 : Nat) (H : AHeap), R base m H w →
    (∀ k B, Wnt T want l k B → ∃ c, m (idOf st (j0 + k)) = some c ∧ base ≤ c.blk ∧ BR m w c B ∧ NotIn m H c.blk) →
    (∀ k B k' B' c c', Wnt T want l k B → Wnt T want l k' B' → k ≠ k' → m (idOf st (j0 + k)) = some c → m (idOf st (j0 + k')) = some c' → c.blk ≠ c'.blk) →
    R base m (mater T st want j0 l H) w ∧ (mater T st want j0 l H).next = H.next ∧
      ∀ b C, (mater T st want j0 l H).get b = some C → H.get b = some C ∨ ∃ k B, Wnt T want l k B ∧ b = idOf st (j0 + k)
  | [], _, H, hR, _, _ => ⟨hR, rfl, fun _ _ h => .inl h⟩
  | p :: l, j0, H, hR, hj, ha => by
    have up : ∀ {k B}, Wnt T want l k B → Wnt T want (p :: l) (k + 1) B := fun ⟨q, e, d, h1, h2⟩ => ⟨q, e, d, by simpa using h1, h2⟩
    have hj1 : ∀ k B, Wnt T want l k B → ∃ c, m (idOf st (j0 + 1 + k)) = some c ∧ base ≤ c.blk ∧ BR m w c B ∧ NotIn m H c.blk := fun k B h => by
      have := hj (k + 1) B (up h)
      rwa [show j0 + (k + 1) = j0 + 1 + k by omega] at this
    have ha1 : ∀ k B k' B' c c', Wnt T want l k B → Wnt T want l k' B' → k ≠ k' → m (idOf st (j0 + 1 + k)) = some c → m (idOf st (j0 + 1 + k')) = some c' → c.blk ≠ c'.blk := fun k B k' B' c c' h1 h2 h3 h4 h5 =>
      ha (k + 1) B (k' + 1) B' c c' (up h1) (up h2) (by omega) (by rwa [show j0 + (k + 1) = j0 + 1 + k by omega]) (by rwa [show j0 + (k' + 1) = j0 + 1 + k' by omega])
    have lift : ∀ {b C}, (H.get b = some C ∨ ∃ k B, Wnt T want l k B ∧ b = idOf st (j0 + 1 + k)) → H.get b = some C ∨ ∃ k B, Wnt T want (p :: l) k B ∧ b = idOf st (j0 + k) := fun {b C} h => by
      rcases h with h | ⟨k, B, h1, h2⟩
      · exact .inl h
      · exact .inr ⟨k + 1, B, up h1, by rw [h2, show j0 + 1 + k = j0 + (k + 1) by omega]⟩
    have plain := mater_ok (st := st) l (j0 + 1) H hR hj1 ha1
    simp only [mater]
    split
    · rename_i e d ho hd
      split
      · rename_i B hw hz
        have hW : Wnt T want (p :: l) 0 B := ⟨p, e, d, rfl, ho, hd, hw, hz⟩
        obtain ⟨c, c1, c2, c3, c4⟩ := hj 0 B hW
        rw [Nat.add_zero] at c1
        have nin : ∀ n, NotIn m H n → n ≠ c.blk → NotIn m (H.put (idOf st j0) (some B)) n := fun n hn hne b C k hb hk => by
          rw [AHeap.get_put] at hb
          split at hb
          · rename_i e; subst e
            rw [c1] at hk
            obtain rfl := Option.some.inj hk
            exact fun q => hne q.symm
          · exact hn b C k hb hk
        obtain ⟨k1, k2, k3⟩ := mater_ok (st := st) l (j0 + 1) (H.put (idOf st j0) (some B)) (hR.adopt c1 c2 c3 c4) (fun k B' h => by
          obtain ⟨c', g1, g2, g3, g4⟩ := hj1 k B' h
          refine ⟨c', g1, g2, g3, nin _ g4 ?_⟩
          exact ha (k + 1) B' 0 B c' c (up h) hW (by omega) (by rwa [show j0 + (k + 1) = j0 + 1 + k by omega]) (by simpa using c1)) ha1
        refine ⟨k1, k2, fun b C hb => ?_⟩
        rcases k3 b C hb with h1 | h1
        · rw [AHeap.get_put] at h1
          split at h1
          · rename_i e; exact .inr ⟨0, B, hW, by rw [e, Nat.add_zero]⟩
          · exact .inl h1
        · exact lift (.inr h1)
      · exact ⟨plain.1, plain.2.1, fun b C hb => lift (plain.2.2 b C hb)⟩
    · exact ⟨plain.1, plain.2.1, fun b C hb => lift (plain.2.2 b C hb)⟩
theorem seenBy_no {T : Tab} {L : List Oper} {d : Tmp} : ∀ {i : Nat} {l : List Oper}, seenBy T L d i l = false → ∀ k o, k < i → l[k]? = some o → isFl T o.op = false → memN d (looks L o) = false
  | 0, _, _, k, _, hk, _, _ => absurd hk (Nat.not_lt_zero _)
  | i + 1, [], _, k, o, _, ho, _ => by simp at ho
  | i + 1, q :: l, h, k, o, hk, ho, hf => by
    simp only [seenBy, Bool.or_eq_false_iff] at h
    cases k with
    | zero =>
      simp at ho; subst ho
      have := h.1
      rw [hf] at this
      simpa using this
    | succ k => exact seenBy_no h.2 k o (by omega) (by simpa using ho) hf

theorem lay_ok (hT : TabOk P T) {base : Nat} {m : Mu} {H : AHeap} {w : World} {a : Act} {i : Nat} {o : Oper} {e : TypeId} {B : ABlk} (hR : R base m H w) (hb : base ≤ w.heap.size) (he : ERel m nt env0 a) (hid : m (idOf st i) = none) (ho : o.op = .alloc e) (hz : zeroBlk T e = some B) :
    ∃ m' w' l, (execOp a.eval o).run P w = .ok (.value (.pointer (some ⟨l.blk, l.off, none⟩))) w' ∧ m' (idOf st i) = some l ∧ Stp base m H w m' H w' (· = idOf st i) ∧ w.heap.size ≤ l.blk ∧ l.blk < w'.heap.size ∧ BR m' w' l B ∧ NotIn m' H l.blk := by
  have ha : aop T (idOf st i) env0 H o.op = some (.val (.pointer (some ⟨idOf st i, 0, none⟩)), H.put (idOf st i) (some B)) := by
    rw [ho]
    unfold zeroBlk at hz
    simp only [aop, xAlloc]
    split at hz
    case h_2 => cases hz
    rename_i rr hrr
    split at hz
    case h_2 => cases hz
    rename_i z hzz
    split at hz
    case isFalse => cases hz
    rename_i hp
    obtain rfl := Option.some.inj hz
    simp only [Bool.and_eq_true] at hp
    simp [hp.1, hp.2, ptrTo, anew]
  obtain ⟨m', w', v', g1, g2, g3⟩ := aop_ok (P := P) hT hR hb hid he ha
  obtain ⟨l, hl, rfl⟩ := g2.ptr_inv
  have hput : (H.put (idOf st i) (some B)).get (idOf st i) = some B := by rw [AHeap.get_put, if_pos rfl]
  have hne : ∀ {b C}, H.get b = some C → b ≠ idOf st i := fun {b C} hb q => by
    subst q
    obtain ⟨k, hk, _⟩ := hR.live _ _ hb
    rw [hid] at hk; cases hk
  have hup : ∀ {b C}, H.get b = some C → (H.put (idOf st i) (some B)).get b = some C := fun {b C} hb => by rw [AHeap.get_put, if_neg (hne hb)]; exact hb
  have hB := (g3.rel.at hput hl)
  have hnot : NotIn m' H l.blk := fun b C k h1 h2 q => hne h1 (g3.rel.inj b _ C B k l (hup h1) hput h2 hl q)
  refine ⟨m', w', l, by simpa using g1, hl, ⟨g3.ext, ⟨fun b C h1 => g3.rel.live b C (hup h1), fun b c C D k k' h1 h2 h3 h4 h5 => g3.rel.inj b c C D k k' (hup h1) (hup h2) h3 h4 h5⟩, g3.fr, fun b C k h1 h2 => g3.bk b C k (hup h1) h2⟩, ?_, hB.2.lt, hB.2, hnot⟩
  rcases g3.bk _ _ _ hput hl with q | ⟨c, C, k, q1, q2, q3⟩
  · exact q
  · exact absurd q3 (hnot c C k q1 (g3.ext.1 _ _ q2))

theorem any_step {rd : Prop} {rl : Option Nat} (hnd : rl = none ∨ noDefers ops.toList = true) (hT : TabOk P T) (hC : CallOk rd P C) (h : Seen T nt C ops.toList st env0 H0 rs) (hag : Again T nt C ops.toList st H0 rs) (hst : st < H0.next) {ds : List ADef} {base : Nat} {m0 : Mu} {w0 : World} (hb : base ≤ w0.heap.size)
    {D D' : Nat → Bool} {x y : List Rec} {r : Rec} (hDn : Down ops.toList D) (e : rs = x ++ r :: y) (hr : Rdy ops.toList D r.i) (hn : D r.i = false) (hD' : ∀ j, D' j = (D j || j == r.i))
    {m : Mu} {a : Act} {w : World} (hA : AI T ops.toList nt C st env0 H0 rs ds base m0 w0 D m a w) {K : Act → World → Prop} {Q : Exit → Act → World → Prop}
    (hK : ∀ m' a' w', AI T ops.toList nt C st env0 H0 rs ds base m0 w0 D' m' a' w' → K a' w') : wpOpIn (fen rl) 0 P ops Q r.i K a w := by
  have hw := h.way x r y e
  have hoL := h.at e
  have ho : ops[r.i]? = some r.o := by simpa using hoL
  have he : ERel m nt r.e a := ⟨hA.size, fun t v ht => by
    obtain ⟨h1, h2⟩ := hw.env t v ht
    exact hA.tm t v (by rw [W1 h hDn e hr hn h1]; exact h2)⟩
  obtain ⟨en, H', hs, hH', hen⟩ : ∃ en H', opStepL T nt C ops.toList st r.i r.o ⟨r.e, hD T nt C ops.toList st H0 rs D, []⟩ = some (none, ⟨en, H', []⟩) ∧ H' = hD T nt C ops.toList st H0 rs D' ∧ (∀ d v, r.o.dst = some d → r.s.env.get d = some v → en.get d = some v) := by
    cases hf : isFl T r.o.op
    · cases hmk : mkR ops.toList r
      · have h1 : hD T nt C ops.toList st H0 rs D = hp H0 x := by
          unfold hD
          rw [E1 h hDn e hr hn hf hmk]; exact fold_eff h _ x (r :: y) rfl e
        refine ⟨r.s.env, r.s.H, by rw [h1]; exact hw.step, ?_, fun d v _ hv => hv⟩
        rw [hD_set h hDn e hr hn hD', hf, h1]
        exact (upd_way h e).symm
      · obtain ⟨u, hu⟩ := opStepL_mk hmk hw.step
        refine ⟨r.s.env, _, hu _, ?_, fun d v _ hv => hv⟩
        rw [hD_set h hDn e hr hn hD', hf]
        simp only [Bool.false_eq_true, if_false]
        unfold upd
        rw [hmk]
        simp only
        rw [hu]
    · obtain ⟨en, H', hs, k⟩ := hag hDn e hr hn hf
      have hH := opStepL_float hf hs
      refine ⟨en, H', hs, ?_, k⟩
      rw [hD_set h hDn e hr hn hD', if_pos hf]; exact hH
  have hod : rl = none ∨ noDefer r.o.op = true := hnd.imp id fun q => noDefers_mem q r.o (List.mem_of_getElem? (h.at e))
  have hbw := Nat.le_trans hb hA.stp.fr.size
  have tmOf : ∀ {m' : Mu} {a' : Act} {env' : AEnv} {v'' : Value}, m.le m' → ERel m' nt env' a' → a'.tmps = (a.put r.o.dst v'').tmps → (∀ d v, r.o.dst = some d → r.s.env.get d = some v → env'.get d = some v) →
      ∀ t v, wr env0 (rs.filter fun q => D' q.i) t = some v → ∃ v', a'.tmps[t]? = some v' ∧ VR m' v v' := fun {m' a' env' v''} hle he' htm hen t v hv => by
    rw [W2 h hDn e hn hD'] at hv
    split at hv
    · rename_i hd
      exact he'.2 t v (hen t v hd hv)
    · rename_i hd
      obtain ⟨u, h1, h2⟩ := hA.tm t v hv
      refine ⟨u, ?_, h2.mono hle⟩
      rw [htm]
      cases hdd : r.o.dst with
      | none => exact h1
      | some d =>
        have hne : d ≠ t := fun q => hd (by rw [hdd, q])
        show (a.tmps.setIfInBounds d v'')[t]? = some u
        rw [Array.getElem?_setIfInBounds_ne hne]; exact h1
  -- what is pending behind r was so ahead of it, or is r
  have pd_down : ∀ {j e2 B}, Pd T ops.toList D' j e2 B → j ≠ r.i → Pd T ops.toList D j e2 B := fun {j e2 B} ⟨p, d, q1, q2, q3, q4, q5, q6⟩ hne =>
    ⟨p, d, q1, q2, q3, by rw [hD'] at q4; simpa [hne] using q4, q5, fun k o2 hk hk2 hk3 => q6 k o2 hk (by rw [hD', hk2]; rfl) hk3⟩
  unfold wpOpIn
  rw [ho]
  cases hal : isAlloc r.o.op
  case true =>
    obtain ⟨e2, ho2⟩ : ∃ e2, r.o.op = .alloc e2 := by cases hoo : r.o.op <;> rw [hoo] at hal <;> first | exact ⟨_, rfl⟩ | cases hal
    unfold opStepL at hs
    rw [ho2] at hs
    simp only at hs
    split at hs
    · cases hs
    rename_i hi256
    have hi : r.i < 256 := by
      have : ¬ 256 ≤ r.i := fun hh => hi256 (Nat.ble_eq_true_of_le hh)
      omega
    split at hs
    case h_2 => cases hs
    rename_i B hg hz
    obtain ⟨env', hpt, hr2⟩ := stPut_inv hs
    obtain ⟨_, hr3⟩ := Prod.mk.inj hr2
    obtain ⟨rfl, rfl, _⟩ := St.mk.inj hr3
    have hid : m (idOf st r.i) = none := by
      cases hm : m (idOf st r.i) with
      | none => rfl
      | some l => exact absurd (hA.used _ l hm) (Used.id_new (by simp [hn]) hi)
    obtain ⟨m', w', l, g1, g2, g3, g4, g5, g6, g7⟩ := lay_ok (P := P) (st := st) hT hA.rel hbw he hid ho2 hz
    have hv : VR m' (.pointer (some ⟨idOf st r.i, 0, none⟩)) (.pointer (some ⟨l.blk, l.off, none⟩)) := by simpa using VR.ptr (o := 0) g2
    have he' := put_ok (he.mono g3.ext.1) hpt hv
    have hwn : Region.wanted r.o (yielded ops a.tmps) = true := by unfold Region.wanted; rw [hg]
    show if Region.wanted r.o (yielded ops a.tmps) = true then _ else _
    rw [if_pos hwn]
    refine UponX.wpIn (rd := rd) hod ?_
    rw [g1]
    refine hK m' _ w' ?_
    have hbf : ∀ {j e2 B}, Pd T ops.toList D j e2 B → ∃ lj, m (idOf st j) = some lj ∧ w0.heap.size ≤ lj.blk ∧ lj.blk < w.heap.size ∧ BR m w lj B ∧ NotIn m (hD T nt C ops.toList st H0 rs D) lj.blk := fun hp => hA.pend _ _ _ hp
    refine ⟨hH' ▸ g3.rel, he'.1, tmOf (v'' := .pointer (some ⟨l.blk, l.off, none⟩)) g3.ext.1 he' rfl hen, by rw [put_defers]; exact hA.ds.mono g3.ext.1, ?_, fun b lb hbl => ?_, ?_, fun j e3 B3 hp => ?_, fun j e3 B3 j' e4 B4 l1 l2 hp hp' hne h1 h2 => ?_⟩
    · rw [← hH']
      exact hA.stp.trans g3 (fun _ h => h) (fun b hb hub => by
        subst hb
        refine Used.id_new (stamp := st) (n := (hD T nt C ops.toList st H0 rs D).next) (S := fun _ => False) (fun q => q) hi (hub.mono (fun _ q => q) hA.next))
    · rw [← hH']
      rcases g3.ext.2 b lb hbl with q | ⟨_, q⟩
      · refine (hA.used b lb q).mono (fun j hj => ?_) (Nat.le_refl _)
        show D' j = true
        rw [hD', show D j = true from hj]; rfl
      · subst q
        exact .inr (.inl ⟨r.i, by show D' r.i = true; rw [hD']; simp, hi, rfl⟩)
    · rw [← hH']; exact hA.next
    · by_cases hj : j = r.i
      · subst hj
        obtain ⟨p, d, q1, q2, q3, q4, q5, q6⟩ := hp
        rw [hoL] at q1
        obtain rfl := Option.some.inj q1
        rw [ho2] at q2
        cases q2
        rw [hz] at q5
        obtain rfl := Option.some.inj q5
        exact ⟨l, g2, Nat.le_trans hA.stp.fr.size g4, g5, g6, by rw [← hH']; exact g7⟩
      · obtain ⟨lj, k1, k2, k3, k4, k5⟩ := hbf (pd_down hp hj)
        refine ⟨lj, g3.ext.1 _ _ k1, k2, Nat.lt_of_lt_of_le k3 g3.fr.size, (k4.mono g3.ext.1).same (g3.fr.keep _ k3 fun b C k u1 u2 => k5 b C k u1 u2), ?_⟩
        rw [← hH']
        intro b C k u1 u2 q
        rcases g3.bk b C k u1 u2 with z | ⟨c, C', k', z1, z2, z3⟩
        · omega
        · exact k5 c C' k' z1 z2 (z3.trans q)
    · by_cases hj : j = r.i
      · have hj' : j' ≠ r.i := fun q => hne (hj.trans q.symm)
        subst hj
        obtain ⟨lj, k1, k2, k3, _⟩ := hbf (pd_down hp' hj')
        rw [g3.ext.1 _ _ k1] at h2
        obtain rfl := Option.some.inj h2
        rw [g2] at h1
        obtain rfl := Option.some.inj h1
        omega
      · obtain ⟨lj, k1, k2, k3, _⟩ := hbf (pd_down hp hj)
        rw [g3.ext.1 _ _ k1] at h1
        obtain rfl := Option.some.inj h1
        by_cases hj' : j' = r.i
        · subst hj'
          rw [g2] at h2
          obtain rfl := Option.some.inj h2
          omega
        · obtain ⟨lj', z1, z2, z3, _⟩ := hbf (pd_down hp' hj')
          rw [g3.ext.1 _ _ z1] at h2
          obtain rfl := Option.some.inj h2
          exact hA.apart j e3 B3 j' e4 B4 _ _ (pd_down hp hj) (pd_down hp' hj') hne k1 z1
  case false =>
    have hjr : ∀ {j e2 B}, Pd T ops.toList D' j e2 B → j ≠ r.i := fun {j e2 B} ⟨p, d, q1, q2, _⟩ q => by
      subst q
      rw [hoL] at q1
      obtain rfl := Option.some.inj q1
      rw [q2] at hal; cases hal
    obtain ⟨Hm, hs', hRm, hnx, hmst, hpd⟩ : ∃ Hm, opStep T nt C ops.toList st r.i r.o ⟨r.e, Hm, []⟩ = some (none, ⟨en, H', []⟩) ∧ R base m Hm w ∧ Hm.next = (hD T nt C ops.toList st H0 rs D).next ∧ Stp base m0 H0 w0 m Hm w (fun b => ¬ Used st (fun _ => False) H0.next b) ∧
        ∀ j e2 B lj, Pd T ops.toList D' j e2 B → m (idOf st j) = some lj → NotIn m Hm lj.blk := by
      rw [opStepL_of hal] at hs
      cases hf : isFloat T r.o.op
      · rw [hf] at hs
        have hfl : isFl T r.o.op = false := by rw [isFl_alloc hal]; exact hf
        -- what is laid, and now looked at, is pending
        have hpk : ∀ k B, Wnt T (fun d => memN d (looks ops.toList r.o) && !seenBy T ops.toList d r.i ops.toList) (ops.toList.take r.i) k B → ∃ e2, Pd T ops.toList D k e2 B := fun k B ⟨p, e2, d, h1, h2, h3, h4, h5⟩ => by
          simp only [Bool.and_eq_true, Bool.not_eq_true'] at h4
          have hmk : mkr ops.toList r.o = false := by
            cases q : mkr ops.toList r.o
            · rfl
            · exfalso
              unfold mkr at q
              simp only [Bool.and_eq_true] at q
              have := noLook_mem q.2 p (List.mem_of_mem_take (List.mem_of_getElem? h1)) e2 d h2 h3
              rw [h4.1] at this; cases this
          have hk : k < r.i := by
            rcases Nat.lt_or_ge k r.i with z | z
            · exact z
            · rw [List.getElem?_eq_none (by simp; omega)] at h1; cases h1
          have hp : ops.toList[k]? = some p := by rw [List.getElem?_take, if_pos hk] at h1; exact h1
          have hmem : d ∈ looks ops.toList r.o := by
            have : ∀ {l : List Nat}, memN d l = true → d ∈ l := by
              intro l
              induction l with
              | nil => intro q; cases q
              | cons z l ih =>
                intro q
                simp only [memN, Bool.or_eq_true, Tr.beq_iff] at q
                rcases q with q | q
                · rw [q]; exact List.mem_cons_self
                · exact List.mem_cons_of_mem _ (ih q)
            exact this h4.1
          refine ⟨e2, p, d, hp, h2, h3, ah_in hDn (h.ahead hoL hp hk (by simp [clash, h3, h4.1])) hr, h5, fun k' o' hk' hd' hf' => ?_⟩
          refine seenBy_no h4.2 k' o' ?_ hk' hf'
          rcases Nat.lt_trichotomy k' r.i with z | z | z
          · exact z
          · rw [z, hn] at hd'; cases hd'
          · have := ah_done hDn (h.ahead hk' hoL z (by simp [clash, hfl, hf', hmk])) hd'
            rw [hn] at this; cases this
        obtain ⟨k1, k2, k3⟩ := mater_ok (st := st) (ops.toList.take r.i) 0 (hD T nt C ops.toList st H0 rs D) hA.rel (fun k B hW => by
          obtain ⟨e2, hp⟩ := hpk k B hW
          obtain ⟨c, c1, c2, c3, c4, c5⟩ := hA.pend _ _ _ hp
          rw [Nat.zero_add]
          exact ⟨c, c1, Nat.le_trans hb c2, c4, c5⟩) (fun k B k' B' c c' hW hW' hne h1 h2 => by
          obtain ⟨e2, hp⟩ := hpk k B hW
          obtain ⟨e3, hp'⟩ := hpk k' B' hW'
          rw [Nat.zero_add] at h1 h2
          exact hA.apart _ _ _ _ _ _ _ _ hp hp' hne h1 h2)
        refine ⟨_, hs, k1, k2, ⟨hA.stp.ext, k1, hA.stp.fr, fun b C k h1 h2 => ?_⟩, fun j e2 B lj hp hlj b C k h1 h2 => ?_⟩
        · rcases k3 b C h1 with z | ⟨k0, B0, hW, rfl⟩
          · exact hA.stp.bk b C k z h2
          · obtain ⟨e3, hp⟩ := hpk k0 B0 hW
            obtain ⟨c, c1, c2, _⟩ := hA.pend _ _ _ hp
            rw [Nat.zero_add, c1] at h2
            obtain rfl := Option.some.inj h2
            exact .inl c2
        · have hp0 := pd_down hp (hjr hp)
          obtain ⟨lj', q1, _, _, _, q5⟩ := hA.pend _ _ _ hp0
          rw [hlj] at q1
          obtain rfl := Option.some.inj q1
          rcases k3 b C h1 with z | ⟨k0, B0, hW, rfl⟩
          · exact q5 b C k z h2
          · obtain ⟨e3, hp3⟩ := hpk k0 B0 hW
            rw [Nat.zero_add] at h2
            refine hA.apart _ _ _ _ _ _ _ _ hp3 hp0 (fun q => ?_) h2 hlj
            subst q
            obtain ⟨p, d, g1, g2, g3, g4, g5, g6⟩ := hp
            obtain ⟨p', e4, d', f1, f2, f3, f4, f5⟩ := hW
            have hk : k0 < r.i := by
              rcases Nat.lt_or_ge k0 r.i with z | z
              · exact z
              · rw [List.getElem?_eq_none (by simp; omega)] at f1; cases f1
            rw [List.getElem?_take, if_pos hk, g1] at f1
            obtain rfl := Option.some.inj f1
            rw [g3] at f3
            cases f3
            simp only [Bool.and_eq_true] at f4
            have := g6 r.i r.o hoL (by rw [hD']; simp) hfl
            rw [f4.1] at this; cases this
      · rw [hf] at hs
        refine ⟨_, hs, hA.rel, rfl, hA.stp, fun j e2 B lj hp hlj => ?_⟩
        obtain ⟨lj', q1, _, _, _, q5⟩ := hA.pend _ _ _ (pd_down hp (hjr hp))
        rw [hlj] at q1
        obtain rfl := Option.some.inj q1
        exact q5
    have key := opStep_ok (Q := Q) (K := K) (S := fun j => D j = true) hT hC hs' hRm hbw he (by simp [hn]) (fun b l q => by have := hA.used b l q; rw [← hnx] at this; exact this) (by show st < Hm.next; rw [hnx]; exact Nat.lt_of_lt_of_le hst hA.next)
      (fun m' a' w' _ did he' htm hds => hK m' a' w' ?_) (fun v _ _ _ hpv => by cases hpv)
    · show if Region.wanted r.o (yielded ops a.tmps) = true then _ else _
      split
      · rename_i hwn; rw [if_pos hwn] at key; exact key.wpIn hod
      · rename_i hwn; rw [if_neg hwn] at key; exact ⟨fun _ _ => trivial, key⟩
    · subst hH'
      obtain ⟨v'', htm⟩ := htm
      have hle := did.stp.ext.1
      refine ⟨did.stp.rel, he'.1, tmOf hle he' htm hen, ?_, ?_, fun b l hbl => ?_, Nat.le_trans hA.next (hnx ▸ did.next), fun j e3 B3 hp => ?_, fun j e3 B3 j' e4 B4 l1 l2 hp hp' hne h1 h2 => ?_⟩
      · rcases hds with ⟨_, h2⟩ | ⟨d, d', h1, _⟩
        · rw [h2]; exact hA.ds.mono hle
        · cases h1
      · exact hmst.trans did.stp (fun _ h => h) (fun b hb hub => hb (hub.mono (fun _ q => q.elim) (hnx ▸ hA.next)))
      · refine (did.used b l hbl).mono (fun j hj => ?_) (Nat.le_refl _)
        show D' j = true
        rw [hD']
        rcases hj with h1 | h1
        · simp [show D j = true from h1]
        · simp [h1]
      · obtain ⟨lj, k1, k2, k3, k4, _⟩ := hA.pend _ _ _ (pd_down hp (hjr hp))
        have k5 := hpd j e3 B3 lj hp k1
        refine ⟨lj, hle _ _ k1, k2, Nat.lt_of_lt_of_le k3 did.stp.fr.size, (k4.mono hle).same (did.stp.fr.keep _ k3 fun b C k u1 u2 => k5 b C k u1 u2), ?_⟩
        intro b C k u1 u2 q
        rcases did.stp.bk b C k u1 u2 with z | ⟨c, C', k', z1, z2, z3⟩
        · omega
        · exact k5 c C' k' z1 z2 (z3.trans q)
      · obtain ⟨lj, k1, _⟩ := hA.pend _ _ _ (pd_down hp (hjr hp))
        obtain ⟨lj', z1, _⟩ := hA.pend _ _ _ (pd_down hp' (hjr hp'))
        rw [hle _ _ k1] at h1
        obtain rfl := Option.some.inj h1
        rw [hle _ _ z1] at h2
        obtain rfl := Option.some.inj h2
        exact hA.apart j e3 B3 j' e4 B4 _ _ (pd_down hp (hjr hp)) (pd_down hp' (hjr hp')) hne k1 z1

theorem mem_ready {listed : Array Bool} {i : Nat} : i ∈ Region.ready .any ops listed ↔ i < ops.size ∧ listed.getD i true = false ∧ ∃ o, ops[i]? = some o ∧ ∀ x ∈ direct o, listed.getD x false = true := by
  unfold Region.ready
  rw [List.mem_filter, List.mem_range]
  constructor
  · rintro ⟨h1, h2⟩
    simp only [Bool.and_eq_true, Bool.not_eq_true'] at h2
    refine ⟨h1, h2.1, ops[i], by simp [h1], fun x hx => ?_⟩
    have h3 := h2.2
    simp only [Array.getElem?_eq_getElem h1, Option.map_some, Option.getD_some] at h3
    obtain ⟨ed, hed, rfl⟩ := List.mem_map.1 hx
    obtain ⟨hm, hbd⟩ := List.mem_filter.1 hed
    have := (Array.all_eq_true_iff_forall_mem.1 h3) ed (by simpa using hm)
    rw [hbd] at this
    simpa using this
  · rintro ⟨h1, h2, o, ho, h3⟩
    refine ⟨h1, ?_⟩
    rw [h2, ho]
    simp only [Bool.not_false, Bool.true_and, Option.map_some, Option.getD_some]
    refine Array.all_eq_true_iff_forall_mem.2 fun ed hed => ?_
    cases hbd : Region.binds .any ed
    · rfl
    · simp only [Bool.not_true, Bool.false_or]
      exact h3 ed.on (List.mem_map.2 ⟨ed, List.mem_filter.2 ⟨by simpa using hed, hbd⟩, rfl⟩)
def unl (n : Nat) (listed : Array Bool) : Nat := ((List.range n).filter fun j => !listed.getD j true).length

theorem any_ok {rd : Prop} {rl : Option Nat} (hnd : rl = none ∨ noDefers ops.toList = true) (hT : TabOk P T) (hC : CallOk rd P C) (h : Seen T nt C ops.toList st env0 H0 rs) (hag : Again T nt C ops.toList st H0 rs) (hst : st < H0.next) {ds : List ADef} {base : Nat} {m0 : Mu} {w0 : World} (hb : base ≤ w0.heap.size)
    {Q : Exit → Act → World → Prop} (hQ : ∀ D m a w, (∀ j, j < ops.size → D j = true) → AI T ops.toList nt C st env0 H0 rs ds base m0 w0 D m a w → Q .normal a w) :
    ∀ (fuel : Nat) (listed : Array Bool) (m : Mu) (a : Act) (w : World), listed.size = ops.size → unl ops.size listed ≤ fuel → Down ops.toList (fun j => listed.getD j false) → AI T ops.toList nt C st env0 H0 rs ds base m0 w0 (fun j => listed.getD j false) m a w →
      wpAnyIn (fen rl) 0 P .any ops Q fuel listed a w := by
  have tf : ∀ (listed : Array Bool), listed.size = ops.size → ∀ j, j < ops.size → listed.getD j true = listed.getD j false := fun listed hs j hj => by
    rw [Array.getD_eq_getD_getElem?, Array.getD_eq_getD_getElem?, Array.getElem?_eq_getElem (by omega)]; rfl
  have allOf : ∀ (listed : Array Bool), listed.size = ops.size → Region.ready .any ops listed = [] → ∀ j, j < ops.size → listed.getD j false = true := by
    intro listed hs hr j
    induction j using Nat.strongRecOn with
    | _ j ih =>
      intro hj
      cases hl : listed.getD j false
      · exfalso
        have : j ∈ Region.ready .any ops listed := mem_ready.2 ⟨hj, by rw [tf listed hs j hj]; exact hl, ops[j], by simp [hj], fun x hx => by
          have := (fits_ok h.fits j ops[j] (by simp [hj])).1 x hx
          rw [Nat.zero_add] at this
          exact ih x this (Nat.lt_trans this hj)⟩
        rw [hr] at this
        cases this
      · rfl
  intro fuel
  induction fuel with
  | zero =>
    intro listed m a w hs hu hDn hA
    have hall : ∀ j, j < ops.size → listed.getD j false = true := fun j hj => by
      cases hl : listed.getD j false
      · exfalso
        have : j ∈ (List.range ops.size).filter fun j => !listed.getD j true := List.mem_filter.2 ⟨List.mem_range.2 hj, by rw [tf listed hs j hj, hl]; rfl⟩
        have := List.length_pos_of_mem this
        unfold unl at hu
        omega
      · rfl
    refine ⟨?_, hQ _ m a w hall hA⟩
    rw [List.eq_nil_iff_forall_not_mem]
    intro i hi
    obtain ⟨h1, h2, _⟩ := mem_ready.1 hi
    rw [tf listed hs i h1, hall i h1] at h2
    cases h2
  | succ fuel ih =>
    intro listed m a w hs hu hDn hA
    refine ⟨fun hr => hQ _ m a w (allOf listed hs hr) hA, fun i hi => ?_⟩
    obtain ⟨h1, h2, o, ho, h3⟩ := mem_ready.1 hi
    have hoL : ops.toList[i]? = some o := by simpa using ho
    obtain ⟨x, r, y, e, rfl, rfl⟩ := h.split hoL
    have hrd : Rdy ops.toList (fun j => listed.getD j false) r.i := fun o' ho' x hx => by rw [hoL] at ho'; cases ho'; exact h3 x hx
    have hnl : listed.getD r.i false = false := by rw [← tf listed hs r.i h1]; exact h2
    have hset : ∀ j, (listed.setIfInBounds r.i true).getD j false = (listed.getD j false || j == r.i) := fun j => by
      rw [Array.getD_eq_getD_getElem?, Array.getD_eq_getD_getElem?]
      by_cases hj : j = r.i
      · subst hj
        rw [Array.getElem?_setIfInBounds_self_of_lt (by omega)]
        simp
      · rw [Array.getElem?_setIfInBounds_ne (fun q => hj q.symm)]
        simp [hj]
    refine any_step hnd hT hC h hag hst hb hDn e hrd hnl hset hA fun m' a' w' hA' => ih _ m' a' w' (by simpa using hs) ?_ ?_ hA'
    · refine Nat.le_of_lt_succ (Nat.lt_of_lt_of_le ?_ hu)
      refine filter_shorter (fun j hj hq => ?_) ⟨r.i, List.mem_range.2 h1, by rw [h2]; rfl, ?_⟩
      · have hj' := List.mem_range.1 hj
        rw [tf _ (by simpa using hs) j hj', hset] at hq
        rw [tf listed hs j hj']
        cases hl : listed.getD j false
        · rfl
        · rw [hl] at hq; cases hq
      · rw [tf _ (by simpa using hs) r.i h1, hset]; simp
    · refine ⟨fun k o' ho' hk z hz => ?_⟩
      show (listed.setIfInBounds r.i true).getD z false = true
      rw [hset]
      have hk' : (listed.setIfInBounds r.i true).getD k false = true := hk
      rw [hset] at hk'
      by_cases hkr : k = r.i
      · subst hkr
        rw [hoL] at ho'; cases ho'
        rw [h3 z hz]; rfl
      · have : listed.getD k false = true := by simpa [hkr] using hk'
        rw [show listed.getD z false = true from hDn.closed k o' ho' this z hz]; rfl

theorem region_seen_ok {rd : Prop} (hm : P.follows .mixedOrders = true) (hT : TabOk P T) (hC : CallOk rd P C) {id : Nat} {s : St} {env : AEnv} {H : AHeap} {rs : List Rec}
    (hseen : Seen T nt C ops.toList s.H.next s.env ⟨s.H.next + 1, s.H.blk⟩ rs) (hag : Again T nt C ops.toList s.H.next ⟨s.H.next + 1, s.H.blk⟩ rs) (k3 : ∀ t, env.get t = wr s.env rs t) (k4 : H = hp ⟨s.H.next + 1, s.H.blk⟩ rs) :
    ∀ {rl : Option Nat}, rl = none ∨ noDefers ops.toList = true → ∀ {base : Nat} {m : Mu} {a : Act} {w : World}, R base m s.H w → base ≤ w.heap.size → SR m nt s a → Fresh m s.H.next → (Code.region id ops true).wpIn (fen rl) 0 P (Post base m s.H w nt (.normal, ⟨env, matEnd T ops.toList s.H.next H, s.ds⟩)) a w := by
  intro rl hnd base m a w hR hb he hf
  have hnone : ∀ j, (Array.replicate ops.size false).getD j false = false := fun j => by
    rw [Array.getD_eq_getD_getElem?, Array.getElem?_replicate]
    split <;> rfl
  have hfil : ∀ (l : List Rec), (l.filter fun q => (Array.replicate ops.size false).getD q.i false) = [] := fun l => by
    rw [List.filter_eq_nil_iff]; intro q _; rw [hnone]; simp
  have hH0 : hD T nt C ops.toList s.H.next ⟨s.H.next + 1, s.H.blk⟩ rs (fun j => (Array.replicate ops.size false).getD j false) = ⟨s.H.next + 1, s.H.blk⟩ := by
    unfold hD; rw [hfil]; rfl
  refine wpIn_region_any hm (any_ok hnd (ds := s.ds) (base := base) (m0 := m) (w0 := { w with drawn := w.drawn + 1 }) hT hC hseen hag (Nat.lt_succ_self _) hb ?_ ops.size _ m a _ (by simp) (by unfold unl; exact Nat.le_trans (List.length_filter_le ..) (by simp)) ⟨fun k o _ hk => by have hk' := (hnone k).symm.trans hk; cases hk'⟩ ?_)
  · intro D m' a' w' hall hA
    have hlt : ∀ q ∈ rs, D q.i = true := fun q hq => by
      obtain ⟨x, y, e⟩ := List.append_of_mem hq
      have := hseen.at e
      refine hall q.i ?_
      rcases Nat.lt_or_ge q.i ops.size with z | z
      · exact z
      · rw [List.getElem?_eq_none (by simpa using z)] at this; cases this
    have h1 : (rs.filter fun q => D q.i) = rs := List.filter_eq_self.2 hlt
    have h2 : hD T nt C ops.toList s.H.next ⟨s.H.next + 1, s.H.blk⟩ rs D = H := by
      unfold hD
      rw [List.filter_eq_self.2 fun q hq => hlt q (List.mem_filter.1 hq).1, fold_eff hseen _ rs [] rfl (by simp), k4]
    have hnx := hA.next
    have hstp := hA.stp
    have hus := hA.used
    rw [h2] at hnx hstp hus
    have hpend := hA.pend
    rw [h2] at hpend
    have hpk : ∀ k B, Wnt T (fun d => !seenBy T ops.toList d ops.toList.length ops.toList) ops.toList k B → ∃ e2, Pd T ops.toList D k e2 B := fun k B ⟨p, e2, d, q1, q2, q3, q4, q5⟩ => by
      have hlen : ∀ {k : Nat} {o : Oper}, ops.toList[k]? = some o → k < ops.toList.length := fun {k o} q => by
        rcases Nat.lt_or_ge k ops.toList.length with z | z
        · exact z
        · rw [List.getElem?_eq_none z] at q; cases q
      refine ⟨e2, p, d, q1, q2, q3, hall k (by simpa using hlen q1), q5, fun k' o' hk' _ hf' => ?_⟩
      exact seenBy_no (by simpa using q4) k' o' (hlen hk') hk' hf'
    obtain ⟨j1, j2, j3⟩ := mater_ok (st := s.H.next) ops.toList 0 H hstp.rel (fun k B hW => by
      obtain ⟨e2, hp⟩ := hpk k B hW
      obtain ⟨c, c1, c2, c3, c4, c5⟩ := hpend _ _ _ hp
      rw [Nat.zero_add]
      exact ⟨c, c1, Nat.le_trans hb c2, c4, c5⟩) (fun k B k' B' c c' hW hW' hne q1 q2 => by
      obtain ⟨e2, hp⟩ := hpk k B hW
      obtain ⟨e3, hp'⟩ := hpk k' B' hW'
      rw [Nat.zero_add] at q1 q2
      exact hA.apart _ _ _ _ _ _ _ _ hp hp' hne q1 q2)
    have hnx2 : (matEnd T ops.toList s.H.next H).next = H.next := j2
    refine region_post (r := (.normal, ⟨env, matEnd T ops.toList s.H.next H, s.ds⟩)) hf trivial ⟨⟨hA.size, fun t v hv => hA.tm t v (by rw [h1, ← k3 t]; exact hv)⟩, hA.ds⟩ ?_ (by rw [hnx2]; exact hus) (by rw [hnx2]; exact hnx)
    refine ⟨hstp.ext, j1, ⟨hstp.fr.os, hstp.fr.tape, hstp.fr.output, hstp.fr.size, hstp.fr.keep⟩, fun b C k q1 q2 => ?_⟩
    rcases j3 b C q1 with z | ⟨k0, B0, hW, rfl⟩
    · exact hstp.bk b C k z q2
    · obtain ⟨e2, hp⟩ := hpk k0 B0 hW
      obtain ⟨c, c1, c2, _⟩ := hpend _ _ _ hp
      rw [Nat.zero_add, c1] at q2
      obtain rfl := Option.some.inj q2
      exact .inl c2
  · have hR' : R base m ⟨s.H.next + 1, s.H.blk⟩ { w with drawn := w.drawn + 1 } := ⟨hR.live, hR.inj⟩
    have nop : ∀ {j e B}, ¬ Pd T ops.toList (fun j => (Array.replicate ops.size false).getD j false) j e B := fun {j e B} ⟨_, _, _, _, _, q, _⟩ => by
      have q' := (hnone j).symm.trans q; cases q'
    refine ⟨by rw [hH0]; exact hR', he.env.1, fun t v hv => ?_, he.ds, by rw [hH0]; exact Stp.refl hR' _, fun b l hbl => .inl (hf b l hbl), by rw [hH0]; exact Nat.le_refl _, fun j e B hp => (nop hp).elim, fun j e B j' e' B' l l' hp _ => (nop hp).elim⟩
    rw [hfil] at hv
    exact he.env.2 t v (by simpa [wr] using hv)
theorem region_any_ok {rd : Prop} (hm : P.follows .mixedOrders = true) (hT : TabOk P T) (hC : CallOk rd P C) {id : Nat} {s : St} {r : Ex × St} (h : runAny T nt C ops.toList s = some r) :
    ∀ {rl : Option Nat}, rl = none ∨ noDefers ops.toList = true → ∀ {base : Nat} {m : Mu} {a : Act} {w : World}, R base m s.H w → base ≤ w.heap.size → SR m nt s a → Fresh m s.H.next → (Code.region id ops true).wpIn (fen rl) 0 P (Post base m s.H w nt r) a w := by
  unfold runAny at h
  split at h
  · cases h
  rename_i hfits
  split at h
  · cases h
  rename_i rs env H hpass
  split at h
  case h_2 => cases h
  rename_i hfl
  obtain rfl := Option.some.inj h
  obtain ⟨k1, k2, k3, k4⟩ := passAny_ok (env0 := s.env) (H0 := ⟨s.H.next + 1, s.H.blk⟩) ops.toList [] hpass rfl (fun t => by simp [wr]) (by simp [hp])
  simp only [List.nil_append] at k2 k3 k4
  simp only [Bool.and_eq_true] at hfits
  have hseen : Seen T nt C ops.toList s.H.next s.env ⟨s.H.next + 1, s.H.blk⟩ rs := ⟨hfits.1, k1, k2⟩
  have hstrict : Strict T ops.toList := fun k o ho hf j q hj hq hfq => by
    have := strictAll_mem hfits.2 k o ho hf j q (by omega) hq hfq
    rwa [Nat.zero_add] at this
  intro rl hnd base m a w hR hb he hf
  exact region_seen_ok hm hT hC hseen (again_floats hseen hstrict hfl) k3 k4 hnd hR hb he hf
theorem region_anyE_ok {rd : Prop} (hm : P.follows .mixedOrders = true) (hT : TabOk P T) (hC : CallOk rd P C) {id : Nat} {s : St} {r : Ex × St} (h : runAnyE T nt C ops.toList s = some r) :
    ∀ {rl : Option Nat}, rl = none ∨ noDefers ops.toList = true → ∀ {base : Nat} {m : Mu} {a : Act} {w : World}, R base m s.H w → base ≤ w.heap.size → SR m nt s a → Fresh m s.H.next → (Code.region id ops true).wpIn (fen rl) 0 P (Post base m s.H w nt r) a w := by
  unfold runAnyE at h
  split at h
  · rename_i he
    unfold easyR at he
    simp only [Bool.and_eq_true] at he
    unfold runEasy at h
    split at h
    case h_2 => cases h
    rename_i env H hpass
    obtain rfl := Option.some.inj h
    obtain ⟨rs, k1, k2, k3, k4⟩ := passE_ok (env0 := s.env) (H0 := ⟨s.H.next + 1, s.H.blk⟩) ops.toList [] hpass rfl (fun t => by simp [wr]) (by simp [hp])
    simp only [List.nil_append] at k2 k3 k4
    have hseen : Seen T nt C ops.toList s.H.next s.env ⟨s.H.next + 1, s.H.blk⟩ rs := ⟨he.1, k1, k2⟩
    intro rl hnd base m a w hR hb hs hf
    exact region_seen_ok hm hT hC hseen (again_easy hseen he.2) k3 k4 hnd hR hb hs hf
  · exact region_any_ok hm hT hC h
end
end Go.Proofs.YtkgmpkoamicheaaGreatDoor.M
