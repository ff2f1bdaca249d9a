/- The quick way's answers are the program's: code. No program in it. -/
import Derived.Test.YtkgmpkoamicheaaGreatDoorMv
namespace Go.Proofs.YtkgmpkoamicheaaGreatDoor.M
section
variable {P : Program} {T : Tab}

theorem noDefers_mem : ∀ {l : List Oper}, noDefers l = true → ∀ o ∈ l, noDefer o.op = true
  | [], _, _, h => by cases h
  | p :: l, h, o, ho => by
    simp only [noDefers, Bool.and_eq_true] at h
    cases ho with
    | head => exact h.1
    | tail _ ho => exact noDefers_mem h.2 o ho
/-- the rest of a region in the text's order -/
theorem runOps_ok {rd : Prop} (hT : TabOk P T) {C : CallF} (hC : CallOk rd P C) {nt : Nat} {ops : Array Oper} {stamp : Nat} {rl : Option Nat} (hnd : rl = none ∨ noDefers ops.toList = true) : ∀ (l : List Oper) (i : Nat) {s : St} {r : Ex × St}, ops.toList.drop i = l → runOps T nt C ops.toList stamp i l s = some r →
    ∀ {base : Nat} {m : Mu} {a : Act} {w : World}, R base m s.H w → base ≤ w.heap.size → SR m nt s a → (∀ b l, m b = some l → Used stamp (· < i) s.H.next b) → stamp < s.H.next →
    ∀ {Q : Exit → Act → World → Prop}, (∀ e a' w' m', ExR m' r.1 e → SR m' nt r.2 a' → Stp base m s.H w m' r.2.H w' (fun b => ¬ Used stamp (· < i) s.H.next b) → (∀ b l, m' b = some l → Used stamp (· < 256) r.2.H.next b) → s.H.next ≤ r.2.H.next → Q e a' w') →
    i ≤ 256 → wpOpsIn (fen rl) 0 P ops Q (List.range' i l.length) a w := by
  intro l
  induction l with
  | nil =>
    intro i s r hl h base m a w hR hb he hu hst Q hQ hi
    obtain rfl := Option.some.inj h
    exact hQ .normal a w m trivial he (Stp.refl hR _) (fun b l hb => (hu b l hb).mono (fun j hj => Nat.lt_of_lt_of_le hj hi) (Nat.le_refl _)) (Nat.le_refl _)
  | cons o l ih =>
    intro i s r hl h base m a w hR hb he hu hst Q hQ hi
    have hoi : ops[i]? = some o := by
      have : (ops.toList.drop i)[0]? = some o := by rw [hl]; rfl
      simpa using this
    have hl' : ops.toList.drop (i + 1) = l := by rw [← List.drop_drop, hl]; rfl
    have hod : rl = none ∨ noDefer o.op = true := hnd.imp id fun q => noDefers_mem q o (by
      have : o ∈ ops.toList.drop i := by rw [hl]; exact List.mem_cons_self
      exact List.mem_of_mem_drop this)
    rw [List.length_cons, List.range'_succ]
    simp only [wpOpsIn, hoi]
    simp only [runOps] at h
    have hi256 : i < 256 := by
      rcases Nat.lt_or_ge i 256 with q | q
      · exact q
      · exfalso
        have : Nat.ble 256 i = true := Nat.ble_eq_true_of_le q
        simp [opStep, this] at h
    have hplus : ∀ j, Plus (· < i) i j → j < i + 1 := fun j hj => by
      rcases hj with h1 | h1
      · exact Nat.lt_succ_of_lt h1
      · exact h1 ▸ Nat.lt_succ_self _
    have go : ∀ {K : Act → World → Prop}, (∀ a w, K a w → wpOpsIn (fen rl) 0 P ops Q (List.range' (i + 1) l.length) a w) → (if Region.wanted o (yielded ops a.tmps) then UponX rd P o a K Q ((execOp a.eval o).run P w) else K (a.put o.dst Go.undef) w) →
        (if Region.wanted o (yielded ops a.tmps) then o.wpIn (fen rl) 0 P a w (wpOpsIn (fen rl) 0 P ops Q (List.range' (i + 1) l.length)) Q else (∀ f, o.about P w a.eval = some f → (fen rl).fn f) ∧ wpOpsIn (fen rl) 0 P ops Q (List.range' (i + 1) l.length) (a.put o.dst Go.undef) w) := fun hK key => by
      split
      · rename_i hw; rw [if_pos hw] at key; exact Oper.wpIn_mono hK (key.wpIn hod)
      · rename_i hw; rw [if_neg hw] at key; exact ⟨fun _ _ => trivial, hK _ _ key⟩
    split at h
    · cases h
    · rename_i v s1 hs
      obtain rfl := Option.some.inj h
      refine go (K := fun _ _ => False) (fun _ _ q => q.elim) ?_
      exact opStep_ok (S := (· < i)) hT hC hs hR hb he.env (Nat.lt_irrefl i) hu hst (fun _ _ _ hpv => by cases hpv)
        (fun v' m' u w' hpv hds henv hv hd => by
          cases hpv
          exact hQ _ a w' m' ⟨u, rfl, hv⟩ ⟨by rw [henv]; exact he.env.mono hd.stp.ext.1, by rw [hds]; exact he.ds.mono hd.stp.ext.1⟩ hd.stp
            (fun b l hb => (hd.used b l hb).mono (fun j hj => Nat.lt_of_lt_of_le (hplus j hj) hi256) (Nat.le_refl _)) hd.next)
    · rename_i s1 hs
      refine go (fun _ _ q => q) (opStep_ok (S := (· < i)) hT hC hs hR hb he.env (Nat.lt_irrefl i) hu hst (fun m' a' w' _ hd he' _ hds => ?_) (fun v' _ _ _ hpv => by cases hpv))
      refine ih (i + 1) hl' h hd.stp.rel (Nat.le_trans hb hd.stp.fr.size) ⟨he', ?_⟩ (fun b l hb => (hd.used b l hb).mono hplus (Nat.le_refl _)) (Nat.lt_of_lt_of_le hst hd.next) ?_ hi256
      · rcases hds with ⟨h1, h2⟩ | ⟨d, d', h1, h2, h3⟩
        · rw [h1, h2]; exact he.ds.mono hd.stp.ext.1
        · rw [h1, h2]; exact .cons h3 (he.ds.mono hd.stp.ext.1)
      intro e a2 w2 m2 x1 x2 x4 x5 x6
      refine hQ e a2 w2 m2 x1 x2 (hd.stp.trans x4 (fun _ h => h) (fun b hb hub => hb ?_)) x5 (Nat.le_trans hd.next x6)
      exact hub.mono (fun j hj => Nat.lt_succ_of_lt hj) hd.next

theorem Post.trans {base : Nat} {m m1 : Mu} {H H1 : AHeap} {w w1 : World} {nt : Nat} {r : Ex × St} {e : Exit} {a' : Act} {w' : World} (h : Stp base m H w m1 H1 w1 (New H.next H1.next)) (hn : H.next ≤ H1.next)
    (k : Post base m1 H1 w1 nt r e a' w') : Post base m H w nt r e a' w' := by
  obtain ⟨m', x1, x2, x4, x5, x6⟩ := k
  refine ⟨m', x1, x2, h.trans x4 (fun i hi => ?_) (fun i hi => ?_), x5, Nat.le_trans hn x6⟩
  · exact ⟨hi.1, Nat.lt_of_lt_of_le hi.2 (Nat.mul_le_mul_right _ x6)⟩
  · exact ⟨Nat.le_trans (Nat.mul_le_mul_right _ hn) hi.1, hi.2⟩

/-- code within a loop's round; code within a scope -/
abbrev FI (P : Program) (rl : Option Nat) : Machine → Prop := Machine.fenced P (fen rl)
theorem FI.all (rl : Option Nat) (mc : Machine) : FI P rl mc := fenced_wide P mc
theorem FI.one {rl : Option Nat} {mc mc' : Machine} (h : Go.step P mc = .next mc') : StepsIn (FI P rl) P mc mc' := .one (FI.all rl mc) h
theorem wpIn_use {rl : Option Nat} {c : Code} {Q : Exit → Act → World → Prop} {a : Act} {w : World} (h : c.wpIn (fen rl) 0 P Q a w) (b : Frame) (k : List Item) (cs : List Frame) (hb : b.roundOf = rl) :
    ∃ e a' w', Q e a' w' ∧ ArrivesIn (FI P rl) P (lone (b.atR a (.code c :: k)) cs w) b k cs e a' w' := h b k cs hb trivial fun _ q => by cases q
def WPI (rl : Option Nat) (P : Program) (c : Code) (Q : Exit → Act → World → Prop) (a : Act) (w : World) : Prop :=
  ∀ (b : Frame) (k : List Item) (cs : List Frame), b.roundOf = rl → ∃ e a' w', Q e a' w' ∧ ArrivesIn (FI P rl) P (lone (b.atR a (.inLoop c :: k)) cs w) b k cs e a' w'
def WPS (rl : Option Nat) (P : Program) (b0 c : Code) (Q : Exit → Act → World → Prop) (a : Act) (w : World) : Prop :=
  ∀ (b : Frame) (k : List Item) (cs : List Frame), b.roundOf = rl → ∃ e a' w', Q e a' w' ∧ ArrivesIn (FI P rl) P (lone (b.atR a (.code c :: .inScope b0 :: k)) cs w) b k cs e a' w'
theorem loop_of {rl : Option Nat} {c : Code} {Q : Exit → Act → World → Prop} {a : Act} {w : World} (h : c.wpIn (fen rl) 0 P (Exit.then (WPI rl P c Q) Q) a w) : (Code.loop c).wpIn (fen rl) 0 P Q a w ∧ WPI rl P c Q a w := by
  have key : ∀ (b : Frame) (k : List Item) (cs : List Frame), b.roundOf = rl → ∃ e a' w', Q e a' w' ∧ ArrivesIn (FI P rl) P (lone (b.atR a (.code c :: .inLoop c :: k)) cs w) b k cs e a' w' := by
    intro b k cs hb
    obtain ⟨e, a1, w1, hq, harr⟩ := wpIn_use h b (.inLoop c :: k) cs hb
    cases e with
    | normal =>
      obtain ⟨e2, a2, w2, hq2, harr2⟩ := hq b k cs hb
      exact ⟨e2, a2, w2, hq2, .of_steps harr harr2⟩
    | exit id => exact ⟨_, a1, w1, hq, .pass (x := .inLoop c) rfl (fun _ _ => .inl (by simp)) harr⟩
    | goto l => exact ⟨_, a1, w1, hq, .pass (x := .inLoop c) rfl (fun _ _ => .inl (by simp)) harr⟩
    | ret => exact ⟨_, a1, w1, hq, .pass (x := .inLoop c) rfl (fun _ _ => .inl (by simp)) harr⟩
    | panic ch => exact ⟨_, a1, w1, hq, .pass (x := .inLoop c) rfl (fun _ _ => .inl (by simp)) harr⟩
    | outgrown => exact ⟨_, a1, w1, hq, .pass (x := .inLoop c) rfl (fun _ _ => .inl (by simp)) harr⟩
  exact ⟨fun b k cs hb _ _ => let ⟨e, a', w', q, r⟩ := key b k cs hb; ⟨e, a', w', q, .of_steps (FI.one stepR_loop) r⟩,
    fun b k cs hb => let ⟨e, a', w', q, r⟩ := key b k cs hb; ⟨e, a', w', q, .of_steps (FI.one stepR_inLoop) r⟩⟩

theorem stepR_scope {b : Frame} {a : Act} {k : List Item} {cs : List Frame} {w : World} {c : Code} :
    Go.step P (lone (b.atR a (.code (.scope c) :: k)) cs w) = .next (lone (b.atR a (.code c :: .inScope c :: k)) cs w) :=
  step_lone_go (by simp [stepG, stepG.exec, Frame.atR])
theorem stepR_inScope {b : Frame} {a : Act} {k : List Item} {cs : List Frame} {w : World} {c : Code} :
    Go.step P (lone (b.atR a (.inScope c :: k)) cs w) = .next (lone (b.atR a k) cs w) :=
  step_lone_go (by simp [stepG, stepG.exec, Frame.atR])
/-- out of a scope, but for a goto to a label within it -/
theorem WPS.of {b0 c : Code} {Q Q' : Exit → Act → World → Prop} {a : Act} {w : World} (h : c.wpIn (fen none) 0 P Q' a w)
    (hq : ∀ e a' w', Q' e a' w' → (∀ l rest, e = .goto l → findLabel b0 l = some rest → WPS none P b0 rest Q a' w') ∧ ((∀ l rest, e = .goto l → findLabel b0 l ≠ some rest) → Q e a' w')) : WPS none P b0 c Q a w := by
  intro b k cs hb
  obtain ⟨e, a1, w1, hq1, harr⟩ := wpIn_use h b (.inScope b0 :: k) cs hb
  obtain ⟨h1, h2⟩ := hq e a1 w1 hq1
  have hno : ¬ b.roundOf.isSome = true := by rw [hb]; simp
  cases e with
  | normal => exact ⟨.normal, a1, w1, h2 (by simp), StepsIn.trans harr (FI.one stepR_inScope)⟩
  | exit id => exact ⟨.exit id, a1, w1, h2 (by simp), fun k' hk => harr.1 k' (by simpa [exitTo] using hk), fun q => absurd q hno⟩
  | goto l =>
    cases hf : findLabel b0 l with
    | none => exact ⟨.goto l, a1, w1, h2 (fun l' rest e => by cases e; simp [hf]), fun k' hk => harr.1 k' (by simpa [gotoIn, hf] using hk), fun q => absurd q hno⟩
    | some rest =>
      obtain ⟨e2, a2, w2, hq2, harr2⟩ := h1 l rest rfl hf b k cs hb
      exact ⟨e2, a2, w2, hq2, .of_steps (harr.1 _ (by simp [gotoIn, hf])) harr2⟩
  | ret => exact ⟨.ret, a1, w1, h2 (by simp), harr⟩
  | panic ch => exact ⟨.panic ch, a1, w1, h2 (by simp), harr⟩
  | outgrown => exact ⟨.outgrown, a1, w1, h2 (by simp), harr⟩

/-- what the quick way says of code holds: in a plain frame; in a round's, if it is such -/
structure Good (P : Program) (nt : Nat) (c : Code) (s : St) (r : Ex × St) : Prop where
  go : ∀ {rl : Option Nat} {base : Nat} {m : Mu} {a : Act} {w : World}, rl = none ∨ plainR c = true → R base m s.H w → base ≤ w.heap.size → SR m nt s a → Fresh m s.H.next →
    c.wpIn (fen rl) 0 P (Post base m s.H w nt r) a w ∧ (∀ b, c = .loop b → WPI rl P b (Post base m s.H w nt r) a w)
theorem Good.of {nt : Nat} {c : Code} {s : St} {r : Ex × St} (hc : ∀ b, c ≠ .loop b) (h : ∀ {rl : Option Nat} {base : Nat} {m : Mu} {a : Act} {w : World}, rl = none ∨ plainR c = true → R base m s.H w → base ≤ w.heap.size → SR m nt s a → Fresh m s.H.next → c.wpIn (fen rl) 0 P (Post base m s.H w nt r) a w) : Good P nt c s r :=
  ⟨fun h0 h1 h2 h3 h4 => ⟨h h0 h1 h2 h3 h4, fun b e => absurd e (hc b)⟩⟩
theorem Good.wp {nt : Nat} {c : Code} {s : St} {r : Ex × St} (h : Good P nt c s r) {base : Nat} {m : Mu} {a : Act} {w : World} (h1 : R base m s.H w) (h2 : base ≤ w.heap.size) (h3 : SR m nt s a) (h4 : Fresh m s.H.next) : c.wp P (Post base m s.H w nt r) a w :=
  (wpIn_wide (n := 0)).1 (h.go (rl := none) (.inl rfl) h1 h2 h3 h4).1
theorem Post.here {base : Nat} {m : Mu} {w : World} {nt : Nat} {a : Act} {s : St} {x : Ex} {e : Exit} (hR : R base m s.H w) (he : SR m nt s a) (hf : Fresh m s.H.next) (hx : ExR m x e) : Post base m s.H w nt (x, s) e a w :=
  ⟨m, hx, he, Stp.refl hR _, hf, Nat.le_refl _⟩

/-- a region's end, seen from behind it -/
theorem region_stp {H H' : AHeap} {base : Nat} {m m' : Mu} {w w' : World} (hf : Fresh m H.next)
    (x4 : Stp base m ⟨H.next + 1, H.blk⟩ w m' H' w' (fun b => ¬ Used H.next (fun _ => False) (H.next + 1) b)) {S : Nat → Prop} (x5 : ∀ b l, m' b = some l → Used H.next S H'.next b) (x6 : H.next + 1 ≤ H'.next) :
    Stp base m H w m' H' w' (New H.next H'.next) ∧ Fresh m' H'.next ∧ H.next ≤ H'.next := by
  have hfresh : Fresh m' H'.next := fun b l hb => (x5 b l hb).lt x6
  refine ⟨⟨⟨x4.ext.1, fun b l hb => ?_⟩, x4.rel, ⟨x4.fr.os, x4.fr.tape, x4.fr.output, x4.fr.size, x4.fr.keep⟩, x4.bk⟩, hfresh, Nat.le_of_succ_le x6⟩
  rcases x4.ext.2 b l hb with h1 | ⟨h1, h2⟩
  · exact .inl h1
  · refine .inr ⟨h1, ?_, hfresh b l hb⟩
    rcases Nat.lt_or_ge b (H.next * 256) with h3 | h3
    · exact absurd (.inl h3) h2
    · exact h3
theorem region_post {nt : Nat} {s : St} {r : Ex × St} {base : Nat} {m m' : Mu} {w w' : World} {e : Exit} {a' : Act} (hf : Fresh m s.H.next) (x1 : ExR m' r.1 e) (x2 : SR m' nt r.2 a')
    (x4 : Stp base m ⟨s.H.next + 1, s.H.blk⟩ w m' r.2.H w' (fun b => ¬ Used s.H.next (fun _ => False) (s.H.next + 1) b)) {S : Nat → Prop} (x5 : ∀ b l, m' b = some l → Used s.H.next S r.2.H.next b) (x6 : s.H.next + 1 ≤ r.2.H.next) :
    Post base m s.H w nt r e a' w' :=
  let ⟨y1, y2, y3⟩ := region_stp hf x4 x5 x6
  ⟨m', x1, x2, y1, y2, y3⟩
theorem region_ok {rd : Prop} (hT : TabOk P T) {C : CallF} (hC : CallOk rd P C) {nt : Nat} {rl : Option Nat} {id : Nat} {ops : Array Oper} {s : St} {r : Ex × St} (h : runOps T nt C ops.toList s.H.next 0 ops.toList ⟨s.env, ⟨s.H.next + 1, s.H.blk⟩, s.ds⟩ = some r) :
    rl = none ∨ noDefers ops.toList = true → ∀ {base : Nat} {m : Mu} {a : Act} {w : World}, R base m s.H w → base ≤ w.heap.size → SR m nt s a → Fresh m s.H.next → (Code.region id ops false).wpIn (fen rl) 0 P (Post base m s.H w nt r) a w := by
  intro hnd base m a w hR hb he hf
  refine wpIn_region ?_
  rw [List.range_eq_range', show ops.size = ops.toList.length by simp]
  refine (runOps_ok hT hC hnd ops.toList 0 rfl h ⟨hR.live, hR.inj⟩ hb ⟨he.env, he.ds⟩ (fun b l hb => Or.inl (hf b l hb)) (Nat.lt_succ_self _) ?_ (Nat.zero_le _))
  intro e a' w' m' x1 x2 x4 x5 x6
  exact region_post hf x1 x2 (x4.weaken fun b hb hub => hb (hub.mono (fun j hj => hj.elim) (Nat.le_refl _))) x5 x6

theorem scope_ok {nt : Nat} {b0 : Code} {rec : Code → St → Option (Ex × St)} (hrec : ∀ c s r, rec c s = some r → Good P nt c s r) :
    ∀ (n : Nat) (c : Code) (s : St) {r : Ex × St}, scopeGo rec b0 n (rec c s) = some r → ∀ {base : Nat} {m : Mu} {a : Act} {w : World}, R base m s.H w → base ≤ w.heap.size → SR m nt s a → Fresh m s.H.next → WPS none P b0 c (Post base m s.H w nt r) a w := by
  intro n
  induction n with
  | zero => intro c s r h; cases h
  | succ n ih =>
    intro c s r h base m a w hR hb he hf
    cases hc : rec c s with
    | none => rw [hc] at h; cases h
    | some r1 =>
      rw [hc] at h
      have hg := (hrec c s r1 hc).go (rl := none) (.inl rfl) hR hb he hf |>.1
      obtain ⟨x, s1⟩ := r1
      have other : (∀ l, x ≠ .goto l) → some (x, s1) = some r → WPS none P b0 c (Post base m s.H w nt r) a w := fun hx hr => by
        obtain rfl := Option.some.inj hr
        refine WPS.of hg fun e a' w' hp => ⟨fun l rest el _ => ?_, fun _ => hp⟩
        subst el
        obtain ⟨m', x1, _⟩ := hp
        cases x <;> first | exact absurd rfl (hx _) | exact x1.elim
      cases x with
      | goto l =>
        simp only [scopeGo] at h
        split at h
        · rename_i rest hl
          refine WPS.of hg fun e a' w' hp => ⟨fun l' rest' el hl' => ?_, fun hno => ?_⟩
          · subst el
            obtain ⟨m', x1, x2, x4, x5, x6⟩ := hp
            have : l = l' := x1
            subst this
            rw [hl] at hl'
            obtain rfl := Option.some.inj hl'
            have := ih rest s1 h x4.rel (Nat.le_trans hb x4.fr.size) x2 x5
            intro bb k cs hbb
            obtain ⟨e2, a2, w2, q, arr⟩ := this bb k cs hbb
            exact ⟨e2, a2, w2, Post.trans x4 x6 q, arr⟩
          · obtain ⟨m', x1, _⟩ := hp
            cases e <;> first | exact x1.elim | skip
            rename_i l'
            have : l = l' := x1
            subst this
            exact absurd hl (hno l rest rfl)
        · rename_i hl
          obtain rfl := Option.some.inj h
          refine WPS.of hg fun e a' w' hp => ⟨fun l' rest' el hl' => ?_, fun _ => hp⟩
          subst el
          obtain ⟨m', x1, _⟩ := hp
          have : l = l' := x1
          subst this
          rw [hl] at hl'
          cases hl'
      | normal => exact other (by simp) h
      | exit id => exact other (by simp) h
      | ret => exact other (by simp) h
      | panic v => exact other (by simp) h

theorem wpInM {F : Fence} {n : Nat} {c : Code} {Q Q' : Exit → Act → World → Prop} {a : Act} {w : World} (hq : ∀ e a w, Q e a w → Q' e a w) (h : c.wpIn F n P Q a w) : c.wpIn F n P Q' a w := wpIn_mono h hq
theorem run_ok_of {rd : Prop} (hT : TabOk P T) {C : CallF} (hC : CallOk rd P C) {nt : Nat}
    (hany : ∀ {id : Nat} {ops : Array Oper} {s : St} {r : Ex × St}, runAnyE T nt C ops.toList s = some r → ∀ {rl : Option Nat}, rl = none ∨ noDefers ops.toList = true → ∀ {base : Nat} {m : Mu} {a : Act} {w : World}, R base m s.H w → base ≤ w.heap.size → SR m nt s a → Fresh m s.H.next → (Code.region id ops true).wpIn (fen rl) 0 P (Post base m s.H w nt r) a w)
    (hrg : ∀ {g : Operand} {ps : Array Tmp} {x y : Code} {s : St} {r : Ex × St}, rangeGo nt C (ev s.env g) ps.toList x y s = some r → ∀ {base : Nat} {m : Mu} {a : Act} {w : World}, R base m s.H w → base ≤ w.heap.size → SR m nt s a → Fresh m s.H.next → (Code.rangeFunc g ps x y).wpIn (fen none) 0 P (Post base m s.H w nt r) a w) : ∀ (n : Nat) (c : Code) (s : St) (r : Ex × St), run T nt C n c s = some r → Good P nt c s r := by
  intro n
  induction n with
  | zero => intro c s r h; cases h
  | succ n ih =>
    intro c s r h
    change step T nt C (run T nt C n) c s = some r at h
    cases c with
    | skip => obtain rfl := Option.some.inj h; exact Good.of (by simp) fun _ h1 h2 h3 h4 => wpIn_skip (Post.here (x := .normal) h1 h3 h4 trivial)
    | label l => obtain rfl := Option.some.inj h; exact Good.of (by simp) fun _ h1 h2 h3 h4 => wpIn_label (Post.here (x := .normal) h1 h3 h4 trivial)
    | exit id => obtain rfl := Option.some.inj h; exact Good.of (by simp) fun _ h1 h2 h3 h4 => wpIn_exit (Post.here (x := .exit id) h1 h3 h4 rfl)
    | goto l => obtain rfl := Option.some.inj h; exact Good.of (by simp) fun _ h1 h2 h3 h4 => wpIn_goto (Post.here (x := .goto l) h1 h3 h4 rfl)
    | ret => obtain rfl := Option.some.inj h; exact Good.of (by simp) fun _ h1 h2 h3 h4 => wpIn_ret (Post.here (x := .ret) h1 h3 h4 trivial)
    | region id ops draw =>
      simp only [step] at h
      split at h
      · rename_i hd
        subst hd
        exact Good.of (by simp) fun h0 h1 h2 h3 h4 => hany h (h0.imp (fun q => q) fun q => q) h1 h2 h3 h4
      · rename_i hd
        have : draw = false := by simpa using hd
        subst this
        exact Good.of (by simp) fun h0 h1 h2 h3 h4 => region_ok hT hC h (h0.imp (fun q => q) fun q => q) h1 h2 h3 h4
    | seq x y =>
      simp only [step] at h
      refine Good.of (by simp) fun {rl base m a w} h0 h1 h2 h3 h4 => wpIn_seq ?_
      have hx0 : rl = none ∨ plainR x = true := h0.imp (fun q => q) fun q => by simp only [plainR, Bool.and_eq_true] at q; exact q.1
      have hy0 : rl = none ∨ plainR y = true := h0.imp (fun q => q) fun q => by simp only [plainR, Bool.and_eq_true] at q; exact q.2
      split at h
      · rename_i s1 hx
        refine wpInM (fun e a' w' hp => ?_) ((ih x s _ hx).go hx0 h1 h2 h3 h4).1
        obtain ⟨m', x1, x2, x4, x5, x6⟩ := hp
        cases e <;> first | exact x1.elim | skip
        have := ((ih y s1 r h).go hy0 x4.rel (Nat.le_trans h2 x4.fr.size) x2 x5).1
        exact wpInM (fun e a w hq => Post.trans x4 x6 hq) this
      · rename_i hno
        refine wpInM (fun e a' w' hp => ?_) ((ih x s _ h).go hx0 h1 h2 h3 h4).1
        cases e <;> first | exact hp | skip
        obtain ⟨m', x1, _⟩ := hp
        obtain ⟨x0, s0⟩ := r
        cases x0 <;> first | exact x1.elim | exact absurd h (hno _)
    | cond c x y =>
      simp only [step] at h
      refine Good.of (by simp) fun {rl base m a w} h0 h1 h2 h3 h4 => ?_
      have hx0 : rl = none ∨ plainR x = true := h0.imp (fun q => q) fun q => by simp only [plainR, Bool.and_eq_true] at q; exact q.1
      have hy0 : rl = none ∨ plainR y = true := h0.imp (fun q => q) fun q => by simp only [plainR, Bool.and_eq_true] at q; exact q.2
      split at h
      · rename_i hc
        have := ev_ok h3.env hc
        generalize hq : a.eval c = q at this
        cases this
        exact wpIn_cond_true hq ((ih x s r h).go hx0 h1 h2 h3 h4).1
      · rename_i hc
        have := ev_ok h3.env hc
        generalize hq : a.eval c = q at this
        cases this
        exact wpIn_cond_false hq ((ih y s r h).go hy0 h1 h2 h3 h4).1
      · cases h
    | block id b =>
      simp only [step] at h
      refine Good.of (by simp) fun {rl base m a w} h0 h1 h2 h3 h4 => wpIn_block ?_
      split at h
      · rename_i j s1 hb
        refine wpInM (fun e a' w' hp => ?_) ((ih b s _ hb).go (h0.imp (fun q => q) fun q => q) h1 h2 h3 h4).1
        obtain ⟨m', x1, x2, x4, x5, x6⟩ := hp
        cases e <;> first | exact x1.elim | skip
        rename_i j'
        have : j = j' := x1
        subst this
        simp only [Exit.inBlock]
        split at h
        · rename_i hj
          obtain rfl := Option.some.inj h
          rw [if_pos hj]
          exact ⟨m', trivial, x2, x4, x5, x6⟩
        · rename_i hj
          obtain rfl := Option.some.inj h
          rw [if_neg hj]
          exact ⟨m', rfl, x2, x4, x5, x6⟩
      · rename_i hno
        refine wpInM (fun e a' w' hp => ?_) ((ih b s _ h).go (h0.imp (fun q => q) fun q => q) h1 h2 h3 h4).1
        cases e <;> first | exact hp | skip
        obtain ⟨m', x1, _⟩ := hp
        obtain ⟨x0, s0⟩ := r
        cases x0 <;> first | exact x1.elim | exact absurd h (hno _ _)
    | loop b =>
      simp only [step] at h
      refine ⟨fun {rl base m a w} h0 h1 h2 h3 h4 => ?_⟩
      have key : b.wpIn (fen rl) 0 P (Exit.then (WPI rl P b (Post base m s.H w nt r)) (Post base m s.H w nt r)) a w := by
        split at h
        · rename_i s1 hb
          refine wpInM (fun e a' w' hp => ?_) ((ih b s _ hb).go (h0.imp (fun q => q) fun q => q) h1 h2 h3 h4).1
          obtain ⟨m', x1, x2, x4, x5, x6⟩ := hp
          cases e <;> first | exact x1.elim | skip
          have := ((ih (.loop b) s1 r h).go h0 x4.rel (Nat.le_trans h2 x4.fr.size) x2 x5).2 b rfl
          intro bb k cs hbb
          obtain ⟨e2, a2, w2, q, arr⟩ := this bb k cs hbb
          exact ⟨e2, a2, w2, Post.trans x4 x6 q, arr⟩
        · rename_i hno
          refine wpInM (fun e a' w' hp => ?_) ((ih b s _ h).go (h0.imp (fun q => q) fun q => q) h1 h2 h3 h4).1
          cases e <;> first | exact hp | skip
          obtain ⟨m', x1, _⟩ := hp
          obtain ⟨x0, s0⟩ := r
          cases x0 <;> first | exact x1.elim | exact absurd h (hno _)
      obtain ⟨k1, k2⟩ := loop_of key
      exact ⟨k1, fun b' e => by cases e; exact k2⟩
    | scope b =>
      simp only [step] at h
      refine Good.of (by simp) fun {rl base m a w} h0 h1 h2 h3 h4 => ?_
      have hrl : rl = none := h0.resolve_right (by simp [plainR])
      subst hrl
      have := scope_ok ih 100 b s h h1 h2 h3 h4
      intro bb k cs hbb _ _
      obtain ⟨e2, a2, w2, q, arr⟩ := this bb k cs hbb
      exact ⟨e2, a2, w2, q, .of_steps (FI.one stepR_scope) arr⟩
    | rangeFunc g ps x y =>
      refine Good.of (by simp) fun {rl base m a w} h0 h1 h2 h3 h4 => ?_
      have hrl : rl = none := h0.resolve_right (by simp [plainR])
      subst hrl
      exact hrg h h1 h2 h3 h4
    | refuse why => cases h
end
end Go.Proofs.YtkgmpkoamicheaaGreatDoor.M
