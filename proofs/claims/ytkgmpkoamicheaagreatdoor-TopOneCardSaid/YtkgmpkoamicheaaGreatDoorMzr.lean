/- The quick way's answers are the program's: ranges over a function, and all code. No program in it. -/
import Derived.Test.YtkgmpkoamicheaaGreatDoorMz
namespace Go.Proofs.YtkgmpkoamicheaaGreatDoor.M
section
variable {P : Program} {T : Tab} {C : CallF} {nt : Nat} {base : Nat} {m : Mu} {H : AHeap} {w : World}

theorem putObj_same (w : World) (r : Nat) (o : Obj) : (w.putObj r o).os = w.os ∧ (w.putObj r o).tape = w.tape ∧ (w.putObj r o).output = w.output ∧ (w.putObj r o).heap.size = w.heap.size := ⟨rfl, rfl, rfl, World.putObj_size⟩

theorem R.loopAt (h : R base m H w) {b : Nat} {l : Loc} {r : ALoop} (hl : m b = some l) (hb : H.get b = some (.loop r)) : ∃ q : Loop, w.heap[l.blk]? = some (.loop q) ∧ LoopR m r q := (h.at hb hl).2
theorem ltAllT_mem {n : Nat} : ∀ {l : List Tmp}, ltAllT n l = true → ∀ t ∈ l, t < n
  | [], _, _, h => by cases h
  | x :: l, h, t, ht => by
    simp only [ltAllT, Bool.and_eq_true, Nat.blt_eq] at h
    cases ht with
    | head => exact h.1
    | tail _ ht => exact ltAllT_mem h.2 t ht

theorem Stp.new_trans {m1 m2 : Mu} {H1 H2 : AHeap} {w1 w2 : World} (h : Stp base m H w m1 H1 w1 (New H.next H1.next)) (hn : H.next ≤ H1.next) (k : Stp base m1 H1 w1 m2 H2 w2 (New H1.next H2.next)) (hk : H1.next ≤ H2.next) : Stp base m H w m2 H2 w2 (New H.next H2.next) :=
  h.trans k (fun _ hi => ⟨hi.1, Nat.lt_of_lt_of_le hi.2 (Nat.mul_le_mul_right _ hk)⟩) (fun _ hi => ⟨Nat.le_trans (Nat.mul_le_mul_right _ hn) hi.1, hi.2⟩)

theorem rangeFunc_ok {rd : Prop} (hC : CallOk rd P C) {g : Operand} {ps : Array Tmp} {x y : Code} {s : St} {r : Ex × St} (h : rangeGo nt C (ev s.env g) ps.toList x y s = some r)
    {a : Act} (hR : R base m s.H w) (hb : base ≤ w.heap.size) (hs : SR m nt s a) (hf : Fresh m s.H.next) : (Code.rangeFunc g ps x y).wpIn (fen none) 0 P (Post base m s.H w nt r) a w := by
  unfold rangeGo at h
  split at h
  · cases h
  split at h
  case h_2 => cases h
  rename_i f x1 y1 hg
  refine wpIn_rangeFunc fun fn _ => ?_
  have hgv := ev_ok hs.env hg
  generalize hq : a.eval g = q at hgv
  cases hgv
  rename_i x' y' hyl hx1 hx2 hy1 hy2
  have hX := VRs.of_arr hx1 hx2
  have hY := VRs.of_arr hy1 hy2
  -- the two blocks
  let D := s.H.next * 256
  let L := s.H.next * 256 + 1
  let lD : Loc := ⟨w.heap.size, 0, none⟩
  let lL : Loc := ⟨w.heap.size + 1, 0, none⟩
  let q : Loop := { state := .ready, pending := none, fn, tmps := a.tmps, params := ps, assign := x, body := y, defers := w.heap.size }
  let w1 := w.alloc (.deferred (some []))
  let w2 := w1.alloc (.loop q)
  have hw1 : w1.heap.size = w.heap.size + 1 := alloc_size w _
  have hD : m D = none := by
    cases hm : m D with
    | none => rfl
    | some l => exact absurd (hf D l hm) (Nat.lt_irrefl _)
  have S1 : Stp base m ⟨s.H.next + 1, s.H.blk⟩ w (m.put D lD) (AHeap.put ⟨s.H.next + 1, s.H.blk⟩ D (some .dfr)) w1 (· = D) :=
    R.new (H := ⟨s.H.next + 1, s.H.blk⟩) ⟨hR.live, hR.inj⟩ hb hD (l := lD) rfl (alloc_new w _)
  have hL : (m.put D lD) L = none := by
    have : L ≠ D := by show s.H.next * 256 + 1 ≠ s.H.next * 256; omega
    simp only [Mu.put, this, if_false]
    cases hm : m L with
    | none => rfl
    | some l =>
      have := hf L l hm
      exfalso
      have h2 : s.H.next * 256 + 1 < s.H.next * 256 := this
      omega
  have S2 : Stp base (m.put D lD) (AHeap.put ⟨s.H.next + 1, s.H.blk⟩ D (some .dfr)) w1 ((m.put D lD).put L lL) (rangeHeap nt s ps.toList x y) w2 (· = L) :=
    S1.rel.new (by rw [hw1]; omega) hL (l := lL) hw1.symm ⟨q, by
      show (w1.alloc (.loop q)).heap[w.heap.size + 1]? = _
      rw [← hw1]; exact alloc_new w1 _, ⟨rfl, rfl, rfl, rfl, rfl, hs.env.1, fun t v hv => let ⟨v', h1, h2⟩ := hs.env.2 t v hv; ⟨v', h1, (h2.mono S1.ext.1).mono (Mu.le_put hL)⟩⟩⟩
  have hnx : (rangeHeap nt s ps.toList x y).next = s.H.next + 1 := rfl
  have inNew : ∀ i, i = D ∨ i = L → New s.H.next (s.H.next + 1) i := fun i hi => by
    show s.H.next * 256 ≤ i ∧ i < (s.H.next + 1) * 256
    rcases hi with rfl | rfl
    · exact ⟨Nat.le_refl _, by show s.H.next * 256 < _; omega⟩
    · exact ⟨Nat.le_succ _, by show s.H.next * 256 + 1 < _; omega⟩
  have S0 : Stp base m s.H w ((m.put D lD).put L lL) (rangeHeap nt s ps.toList x y) w2 (New s.H.next (rangeHeap nt s ps.toList x y).next) := by
    have := S1.trans S2 (N'' := New s.H.next (s.H.next + 1)) (fun i hi => inNew i (.inl hi)) (fun i hi => inNew i (.inr hi))
    exact ⟨this.ext, this.rel, ⟨this.fr.os, this.fr.tape, this.fr.output, this.fr.size, this.fr.keep⟩, this.bk⟩
  have hf2 : Fresh ((m.put D lD).put L lL) (rangeHeap nt s ps.toList x y).next := fun b l hbl => by
    rw [hnx]
    rcases S0.ext.2 b l hbl with h1 | ⟨_, h1⟩
    · exact Nat.lt_of_lt_of_le (hf b l h1) (Nat.mul_le_mul_right _ (Nat.le_succ _))
    · exact h1.2
  have hDm : ((m.put D lD).put L lL) D = some lD := S2.ext.1 _ _ (Mu.put_at m D lD)
  have hLm : ((m.put D lD).put L lL) L = some lL := Mu.put_at _ L lL
  have hargs : VRs ((m.put D lD).put L lL) (x1.toList ++ [Value.func (.yield L) #[] #[]] ++ y1.toList) (x' ++ #[Value.func (.yield lL.blk) #[] #[]] ++ y').toList := by
    have h1 : VRs ((m.put D lD).put L lL) [Value.func (.yield L) #[] #[]] [Value.func (.yield lL.blk) #[] #[]] := .cons (.yld hLm) (.nil _)
    simpa using ((hX.mono S0.ext.1).append h1).append (hY.mono S0.ext.1)
  have hDs : ∀ m', ((m.put D lD).put L lL).le m' → DRs m' (⟨0, [], [], some D⟩ :: s.ds) ([{ target := .collected w.heap.size, args := #[] }] ++ a.defers) := fun m' hm =>
    .cons (.inr ⟨D, lD, rfl, hm _ _ hDm, rfl⟩) ((hs.ds.mono S0.ext.1).mono hm)
  have hE : ∀ m', ((m.put D lD).put L lL).le m' → ERel m' nt s.env { a with defers := [{ target := .collected w.heap.size, args := #[] }] ++ a.defers } := fun m' hm => (hs.env.mono S0.ext.1).mono hm
  refine ⟨w.heap.size + 1, [{ target := .collected w.heap.size, args := #[] }], w2, { target := .fn (.func f) y', args := x' ++ #[.func (.yield (w.heap.size + 1)) #[] #[]] }, w2, f, x' ++ #[.func (.yield (w.heap.size + 1)) #[] #[]] ++ y', w2,
    run_enterLoop_outer fn a.tmps ps x y, ?_, fun _ _ => trivial, ?_, fun q => by (cases q), ?_⟩
  · simp only [resolve, hq]
    simp [Deferred.ofValue, Act.eval]
  · split at h
    · rename_i hc
      have := (hC.enter base _ _ w2 f "" _ _ _ _ S0.rel (Nat.le_trans hb S0.fr.size) hf2 hargs hc).1
      simpa [invoke] using this _ w2
    · rename_i hc
      have := (hC.enter base _ _ w2 f "" _ _ _ _ S0.rel (Nat.le_trans hb S0.fr.size) hf2 hargs hc).1
      simpa [invoke] using this _ w2
    · cases h
  · split at h
    · rename_i v0 H2 hc
      have hcall := (hC.enter base _ _ w2 f "" _ _ _ _ S0.rel (Nat.le_trans hb S0.fr.size) hf2 hargs hc).2
      refine (callsIn_wide (n := 0)).2 (Calls.mono hcall fun e w3 he => ?_)
      cases e with
      | panicked chain => obtain ⟨_, _, _, q1, _⟩ := he; cases q1
      | outgrown => exact he.elim
      | returned v' =>
        obtain ⟨v, m', q1, q2, q3, q4, q5⟩ := he
        unfold rangeEnd at h
        split at h
        case h_2 => cases h
        rename_i rr hrr
        have hlm : m' L = some lL := q3.ext.1 _ _ hLm
        obtain ⟨q', hq1, hq2⟩ := q3.rel.loopAt hlm hrr
        split at h
        · cases h
        rename_i hbusy
        have hst : q'.state ≠ .busy := fun e => hbusy (hq2.st ▸ e)
        have S3 : Stp base m' H2 w3 m' (H2.put L none) (w3.putObj (w.heap.size + 1) (.loop { q' with state := .exhausted })) (New H2.next (H2.put L none).next) :=
          q3.rel.drop hrr hlm (putObj_same _ _ _) (fun k hk => World.putObj_heap_other hk) _
        have S4 := (S0.new_trans (Nat.le_succ _) q3 q5).new_trans (Nat.le_trans (Nat.le_succ _) q5) S3 (Nat.le_refl _)
        have post : ∀ (z : Ex) (e : Exit), ExR m' z e → Post base m s.H w nt (z, ⟨s.env, H2.put L none, ⟨0, [], [], some D⟩ :: s.ds⟩) e { a with defers := [{ target := .collected w.heap.size, args := #[] }] ++ a.defers } (w3.putObj (w.heap.size + 1) (.loop { q' with state := .exhausted })) := fun z e hz =>
          ⟨m', hz, ⟨hE m' q3.ext.1, hDs m' q3.ext.1⟩, S4, q4, Nat.le_trans (Nat.le_succ _) q5⟩
        refine ⟨rr.pend, w3.putObj (w.heap.size + 1) (.loop { q' with state := .exhausted }), by rw [← hq2.pend]; exact run_endLoop hq1 hst, ?_⟩
        split at h
        · rename_i hp; rw [hp]
          obtain rfl := Option.some.inj h
          exact post .normal .normal trivial
        · rename_i hp; rw [hp]
          obtain rfl := Option.some.inj h
          exact wpIn_ret (post .ret .ret trivial)
        · rename_i i hp; rw [hp]
          obtain rfl := Option.some.inj h
          exact wpIn_exit (post (.exit i) (.exit i) rfl)
        · rename_i i hp; rw [hp]
          obtain rfl := Option.some.inj h
          exact wpIn_goto (post (.goto i) (.goto i) rfl)
        · cases h
    · rename_i v0 H2 hc
      obtain rfl := Option.some.inj h
      have hcall := (hC.enter base _ _ w2 f "" _ _ _ _ S0.rel (Nat.le_trans hb S0.fr.size) hf2 hargs hc).2
      refine (callsIn_wide (n := 0)).2 (Calls.mono hcall fun e w3 he => ?_)
      cases e with
      | returned v' => obtain ⟨_, _, q1, _⟩ := he; cases q1
      | outgrown => exact he.elim
      | panicked chain =>
        obtain ⟨v, v', m', q1, rfl, q2, q3, q4, q5⟩ := he
        cases q1
        exact ⟨m', ⟨v', rfl, q2⟩, ⟨hE m' q3.ext.1, hDs m' q3.ext.1⟩, S0.new_trans (Nat.le_succ _) q3 q5, q4, Nat.le_trans (Nat.le_succ _) q5⟩
    · cases h

theorem run_ok {rd : Prop} (hm : P.follows .mixedOrders = true) (hT : TabOk P T) {C : CallF} (hC : CallOk rd P C) {nt : Nat} : ∀ (n : Nat) (c : Code) (s : St) (r : Ex × St), run T nt C n c s = some r → Good P nt c s r :=
  run_ok_of hT hC (fun h => region_anyE_ok hm hT hC h) (fun h => rangeFunc_ok hC h)

/-! a round -/
theorem putPs_ok {nt : Nat} : ∀ {ps : List Tmp} {args args' : List Value} {e e' : AEnv} {tmps : Array Value}, putPs ps args e = some e' → VRs m args args' → tmps.size = nt → (∀ t v, e.get t = some v → ∃ v', tmps[t]? = some v' ∧ VR m v v') → ltAllT nt ps = true →
    args'.length = ps.length ∧ ((ps.zip args').foldl (fun t (p : Nat × Value) => t.setIfInBounds p.1 p.2) tmps).size = nt ∧ ∀ t v, e'.get t = some v → ∃ v', ((ps.zip args').foldl (fun t (p : Nat × Value) => t.setIfInBounds p.1 p.2) tmps)[t]? = some v' ∧ VR m v v'
  | [], args, args', e, e', tmps, h, hv, hs, he, _ => by
    cases args with
    | nil =>
      obtain rfl := hv.nil_inv
      obtain rfl := Option.some.inj h
      exact ⟨rfl, hs, he⟩
    | cons _ _ => cases h
  | p :: ps, args, args', e, e', tmps, h, hv, hs, he, hl => by
    cases args with
    | nil => cases h
    | cons v vs =>
      obtain ⟨v', y, rfl, h1, h2⟩ := hv.cons_inv
      have hp : p < nt := ltAllT_mem hl p List.mem_cons_self
      have hl' : ltAllT nt ps = true := by simp only [ltAllT, Bool.and_eq_true] at hl; exact hl.2
      simp only [putPs] at h
      have := putPs_ok (tmps := tmps.setIfInBounds p v') h h2 (by simpa using hs) (fun t u hu => by
        rw [Tr.get_set] at hu
        by_cases ht : t = p
        · rw [if_pos ht] at hu
          obtain rfl := Option.some.inj hu
          subst ht
          exact ⟨v', by rw [Array.getElem?_setIfInBounds_self_of_lt (by rw [hs]; exact hp)], h1⟩
        · rw [if_neg ht] at hu
          obtain ⟨u', g1, g2⟩ := he t u hu
          exact ⟨u', by rw [Array.getElem?_setIfInBounds_ne (fun q => ht q.symm)]; exact g1, g2⟩) hl'
      exact ⟨by simp [this.1], this.2⟩

theorem roundF_ok {rd : Prop} (hm : P.follows .mixedOrders = true) (hT : TabOk P T) (hC : CallOk rd P C) {fuel b : Nat} {l : Loc} {args : List Value} {args' : Array Value} {r : Ret} {H1 : AHeap} (hR : R base m H w) (hb : base ≤ w.heap.size) (hf : Fresh m H.next) (hl : m b = some l)
    (ha : VRs m args args'.toList) (h : roundF T fuel C b args H = some (r, H1)) : Meets True P (CallPost base m H w r H1) ((Instr.yield l.blk args').run P w) := by
  unfold roundF at h
  split at h
  case h_2 => cases h
  rename_i ra hra
  obtain ⟨q, hq1, hq2⟩ := hR.loopAt hl hra
  split at h
  · cases h
  rename_i hpl
  simp only [Bool.and_eq_true] at hpl
  obtain ⟨⟨hpa, hpb⟩, hps⟩ := hpl
  split at h
  · cases h
  rename_i e he
  obtain ⟨k1, k2, k3⟩ := putPs_ok (tmps := q.tmps) he ha hq2.nt hq2.env hps
  have hsz : args'.size = q.params.size := by
    have h1 : args'.size = args'.toList.length := by simp
    have h2 : q.params.size = q.params.toList.length := by simp
    rw [h1, h2, hq2.ps]; exact k1
  rw [run_yield hq1 hsz]
  refine ⟨trivial, ?_⟩
  have htm : (q.params.zip args').foldl (fun tmps (p : Nat × Value) => tmps.setIfInBounds p.1 p.2) q.tmps = (ra.ps.zip args'.toList).foldl (fun t (p : Nat × Value) => t.setIfInBounds p.1 p.2) q.tmps := by
    rw [← Array.foldl_toList, Array.toList_zip, hq2.ps]
  have htm' : (q.params.zip args').foldl (fun tmps (t, a) => tmps.setIfInBounds t a) q.tmps = (ra.ps.zip args'.toList).foldl (fun t (p : Nat × Value) => t.setIfInBounds p.1 p.2) q.tmps := htm
  rw [htm', hq2.asg, hq2.body]
  refine roundIn_of_wpIn trivial ?_
  have henv : SR m ra.nt ⟨e, H, []⟩ { tmps := (ra.ps.zip args'.toList).foldl (fun t (p : Nat × Value) => t.setIfInBounds p.1 p.2) q.tmps, defers := [] } := ⟨⟨k2, k3⟩, .nil⟩
  split at h
  case h_2 => cases h
  rename_i e1 K hr1
  refine wpIn_mono (((run_ok hm hT hC fuel _ _ _ hr1).go (rl := some l.blk) (.inr hpa) hR hb henv hf).1) fun ex a1 w1 hp => ?_
  obtain ⟨m1, x1, x2, x4, x5, x6⟩ := hp
  cases ex <;> first | exact x1.elim | skip
  have hb1 := Nat.le_trans hb x4.fr.size
  have hl1 : m1 b = some l := x4.ext.1 _ _ hl
  unfold roundMid at h
  split at h
  case h_2 => cases h
  rename_i rb hrb
  obtain ⟨q1, hq3, hq4⟩ := x4.rel.loopAt hl1 hrb
  split at h
  case h_2 => cases h
  rename_i hst
  refine ⟨_, run_beginRound hq3 (hq4.st.trans hst), ?_⟩
  have hlt1 : l.blk < w1.heap.size := (Array.getElem?_eq_some_iff.1 hq3).1
  have W1 : Stp base m1 K w1 m1 (K.put b (some (.loop ⟨.busy, rb.pend, rb.env, rb.nt, rb.ps, rb.asg, rb.body⟩))) (w1.putObj l.blk (.loop { q1 with state := .busy })) (New K.next K.next) :=
    x4.rel.wrote (w' := w1.putObj l.blk (.loop { q1 with state := .busy })) (B' := .loop ⟨.busy, rb.pend, rb.env, rb.nt, rb.ps, rb.asg, rb.body⟩) hrb hl1 (putObj_same _ _ _) (fun k hk => World.putObj_heap_other hk) ⟨{ q1 with state := .busy }, World.putObj_heap_same hlt1, ⟨rfl, hq4.pend, hq4.ps, hq4.asg, hq4.body, hq4.nt, hq4.env⟩⟩ _
  have fin : ∀ (jump : Option Code) (s2 : St) (z : Ex) (e2 : Exit) (a2 : Act) (w3 : World), roundEnd b jump s2.H = some (r, H1) → Post base m1 (K.put b (some (.loop ⟨.busy, rb.pend, rb.env, rb.nt, rb.ps, rb.asg, rb.body⟩))) (w1.putObj l.blk (.loop { q1 with state := .busy })) ra.nt (z, s2) e2 a2 w3 →
      ∃ v w', (Instr.endRound l.blk jump).run P w3 = .ok v w' ∧ CallPost base m H w r H1 (.returned v) w' := fun jump s2 z e2 a2 w3 hend hp => by
    obtain ⟨m2, _, _, y4, y5, y6⟩ := hp
    unfold roundEnd at hend
    split at hend
    case h_2 => cases hend
    rename_i rc hrc
    obtain ⟨rfl, rfl⟩ := Prod.mk.inj (Option.some.inj hend)
    have hl2 : m2 b = some l := y4.ext.1 _ _ hl1
    obtain ⟨q2, hq5, hq6⟩ := y4.rel.loopAt hl2 hrc
    refine ⟨_, _, run_endRound jump hq5, .bool jump.isNone, m2, rfl, .bool _, ?_, y5, Nat.le_trans x6 y6⟩
    have hlt2 : l.blk < w3.heap.size := (Array.getElem?_eq_some_iff.1 hq5).1
    have W2 : Stp base m2 s2.H w3 m2 (s2.H.put b (some (.loop ⟨if jump.isNone then .ready else .done, jump, rc.env, rc.nt, rc.ps, rc.asg, rc.body⟩))) (w3.putObj l.blk (.loop { q2 with state := if jump.isNone then .ready else .done, pending := jump })) (New s2.H.next s2.H.next) :=
      y4.rel.wrote (w' := w3.putObj l.blk (.loop { q2 with state := if jump.isNone then .ready else .done, pending := jump })) (B' := .loop ⟨if jump.isNone then .ready else .done, jump, rc.env, rc.nt, rc.ps, rc.asg, rc.body⟩) hrc hl2 (putObj_same _ _ _) (fun k hk => World.putObj_heap_other hk) ⟨{ q2 with state := if jump.isNone then .ready else .done, pending := jump }, World.putObj_heap_same hlt2, ⟨rfl, rfl, hq6.ps, hq6.asg, hq6.body, hq6.nt, hq6.env⟩⟩ _
    exact ((x4.new_trans x6 W1 (Nat.le_refl _)).new_trans x6 y4 y6).new_trans (Nat.le_trans x6 y6) W2 (Nat.le_refl _)
  have hx2 : SR m1 ra.nt ⟨e1, K.put b (some (.loop ⟨.busy, rb.pend, rb.env, rb.nt, rb.ps, rb.asg, rb.body⟩)), []⟩ a1 := ⟨x2.env, x2.ds⟩
  · split at h
    · rename_i s2 hr2
      refine wpIn_mono (((run_ok hm hT hC fuel _ _ _ hr2).go (rl := some l.blk) (.inr hpb) W1.rel (Nat.le_trans hb1 W1.fr.size) hx2 x5).1) fun ex a2 w3 hp => ?_
      have hp' := hp
      obtain ⟨_, z1, _⟩ := hp'
      cases ex <;> first | exact z1.elim | skip
      exact fin none s2 _ _ _ _ h hp
    · rename_i s2 hr2
      refine wpIn_mono (((run_ok hm hT hC fuel _ _ _ hr2).go (rl := some l.blk) (.inr hpb) W1.rel (Nat.le_trans hb1 W1.fr.size) hx2 x5).1) fun ex a2 w3 hp => ?_
      have hp' := hp
      obtain ⟨_, z1, _⟩ := hp'
      cases ex <;> first | exact z1.elim | skip
      exact fin (some .ret) s2 _ _ _ _ h hp
    · rename_i i s2 hr2
      refine wpIn_mono (((run_ok hm hT hC fuel _ _ _ hr2).go (rl := some l.blk) (.inr hpb) W1.rel (Nat.le_trans hb1 W1.fr.size) hx2 x5).1) fun ex a2 w3 hp => ?_
      have hp' := hp
      obtain ⟨_, z1, _⟩ := hp'
      cases ex <;> first | exact z1.elim | skip
      rename_i i'
      have : i = i' := z1
      subst this
      exact fin (some (.exit i)) s2 _ _ _ _ h hp
    · rename_i i s2 hr2
      refine wpIn_mono (((run_ok hm hT hC fuel _ _ _ hr2).go (rl := some l.blk) (.inr hpb) W1.rel (Nat.le_trans hb1 W1.fr.size) hx2 x5).1) fun ex a2 w3 hp => ?_
      have hp' := hp
      obtain ⟨_, z1, _⟩ := hp'
      cases ex <;> first | exact z1.elim | skip
      rename_i i'
      have : i = i' := z1
      subst this
      exact fin (some (.goto i)) s2 _ _ _ _ h hp
    · cases h
end
end Go.Proofs.YtkgmpkoamicheaaGreatDoor.M
