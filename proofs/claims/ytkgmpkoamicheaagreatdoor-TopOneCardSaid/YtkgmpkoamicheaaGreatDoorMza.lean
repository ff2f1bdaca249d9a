/- The quick way's answers are the program's: functions. No program in it. -/
import Derived.Test.YtkgmpkoamicheaaGreatDoorMzr
import Derived.Recover
namespace Go.Proofs.YtkgmpkoamicheaaGreatDoor.M
section
variable {P : Program} {T : Tab}

/-! results -/
def resF (tmps : Array Value) : ResultVar → Sem Value
  | .tmp t => pure (tmps.getD t undef)
  | .cell p t => do loadVar t (← asAddr (tmps.getD p undef))
theorem results_eq (F : Func) (tmps : Array Value) : results F tmps = (do let vs ← F.results.mapM (resF tmps); pure (if h : vs.size = 1 then vs[0] else .tuple vs)) := rfl
theorem aresult_ok (hT : TabOk P T) {base : Nat} {m : Mu} {H : AHeap} {w : World} {nt : Nat} {env : AEnv} {a : Act} (hR : R base m H w) (he : ERel m nt env a) {x : ResultVar} {v : Value} (h : aresult T env H x = some v) :
    ∃ v', (resF a.tmps x).run P w = .ok v' w ∧ VR m v v' := by
  cases x with
  | tmp t =>
    obtain ⟨v', h1, h2⟩ := he.2 t v h
    have h1' : a.tmps[t]? = some v' := h1
    exact ⟨v', by simp [resF, Array.getD_eq_getD_getElem?, h1'], h2⟩
  | cell p t =>
    simp only [aresult] at h
    split at h
    · rename_i q hq
      obtain ⟨q', h1, h2⟩ := he.2 p q hq
      have h1' : a.tmps[p]? = some q' := h1
      obtain ⟨v', g1, g2⟩ := load_ok (P := P) hT hR h2 h
      refine ⟨v', ?_, g2⟩
      have hp : ∃ ad, q' = .pointer (some ad) := by
        unfold aload at h
        split at h
        · obtain ⟨l, _, e⟩ := h2.ptr_inv; exact ⟨_, e⟩
        · cases h
      obtain ⟨ad, rfl⟩ := hp
      simp only [resF, Array.getD_eq_getD_getElem?, h1', Option.getD_some]
      simpa [asAddr, Instr.loadAt, Instr.sureAddr] using g1
    · cases h
theorem aresults_ok (hT : TabOk P T) {base : Nat} {m : Mu} {H : AHeap} {w : World} {nt : Nat} {env : AEnv} {a : Act} (hR : R base m H w) (he : ERel m nt env a) : ∀ {l : List ResultVar} {vs : List Value}, aresults T env H l = some vs →
    ∃ vs', (l.mapM (resF a.tmps) : Sem (List Value)).run P w = .ok vs' w ∧ VRs m vs vs'
  | [], vs, h => by obtain rfl := Option.some.inj h; exact ⟨[], by simp, .nil m⟩
  | x :: l, vs, h => by
    simp only [aresults] at h
    split at h
    · rename_i v us hv hus
      obtain rfl := Option.some.inj h
      obtain ⟨v', g1, g2⟩ := aresult_ok (P := P) hT hR he hv
      obtain ⟨us', k1, k2⟩ := aresults_ok hT hR he hus
      refine ⟨v' :: us', ?_, .cons g2 k2⟩
      rw [List.mapM_cons]
      simp only [Sem.run_bind, g1, Result.andThen_ok, k1, Sem.run_pure]
    · cases h
theorem results_ok (hT : TabOk P T) {base : Nat} {m : Mu} {H : AHeap} {w : World} {nt : Nat} {env : AEnv} {a : Act} (hR : R base m H w) (he : ERel m nt env a) {F : Func} {l : List ResultVar} (hF : F.results.toList = l) {vs : List Value} (h : aresults T env H l = some vs) :
    ∃ v', (results F a.tmps).run P w = .ok v' w ∧ VR m (one1 vs) v' := by
  obtain ⟨vs', h1, h2⟩ := aresults_ok (P := P) hT hR he h
  subst hF
  have hrun : (results F a.tmps).run P w = .ok (if h : vs'.toArray.size = 1 then vs'.toArray[0] else .tuple vs'.toArray) w := by
    rw [results_eq, Array.mapM_eq_mapM_toList]
    simp only [Sem.run_bind, map_eq_pure_bind, h1, Result.andThen_ok, Sem.run_pure]
  refine ⟨_, hrun, ?_⟩
  unfold one1
  split
  · obtain ⟨v', y, rfl, g, k⟩ := h2.cons_inv
    obtain rfl := k.nil_inv
    exact g
  · rename_i hne
    have : ¬ vs'.toArray.size = 1 := fun q => by
      have hl : vs.length = 1 := by rw [h2.1]; simpa using q
      obtain ⟨v, e⟩ := List.length_eq_one_iff.1 hl
      exact hne v e
    rw [dif_neg this]
    exact VR.tuple' (by simpa using h2)

/-! going in -/
theorem putArgs_get : ∀ {l : List Value} {i : Nat} {e : AEnv} {t : Nat} {v : Value}, (putArgs i l e).get t = some v → (∃ k, t = i + k ∧ l[k]? = some v) ∨ e.get t = some v
  | [], _, _, _, _, h => .inr h
  | u :: l, i, e, t, v, h => by
    rcases putArgs_get (l := l) h with ⟨k, h1, h2⟩ | h
    · exact .inl ⟨k + 1, by omega, by simpa using h2⟩
    · rw [Tr.get_set] at h
      by_cases ht : t = i
      · rw [if_pos ht] at h
        obtain rfl := Option.some.inj h
        exact .inl ⟨0, by omega, rfl⟩
      · rw [if_neg ht] at h; exact .inr h
theorem enter_rel {m : Mu} {nt : Nat} {args : List Value} {args' : Array Value} (h : VRs m args args'.toList) (hn : args.length ≤ nt) :
    ERel m nt (putArgs 0 args .emp) { tmps := args' ++ Array.replicate (nt - args'.size) undef, defers := [] } := by
  have hl : args.length = args'.size := by simpa using h.1
  refine ⟨by simp; omega, fun t v ht => ?_⟩
  rcases putArgs_get ht with ⟨k, rfl, hk⟩ | ht
  · obtain ⟨v', h1, h2⟩ := h.2 k v hk
    refine ⟨v', ?_, h2⟩
    have hk' : k < args'.size := by
      rw [← hl]
      rcases Nat.lt_or_ge k args.length with q | q
      · exact q
      · rw [List.getElem?_eq_none q] at hk; cases hk
    have h1' : args'[k]? = some v' := by simpa using h1
    show (args' ++ Array.replicate (nt - args'.size) undef)[0 + k]? = some v'
    rw [Nat.zero_add, Array.getElem?_append, if_pos hk', h1']
  · rw [Tr.get_e] at ht; cases ht
def FnsOk (P : Program) (fns : Tr Fn1) : Prop := ∀ f fn, fns.get f = some fn → ∃ F, P.funcs[f]? = some F ∧ F.body = some fn.body ∧ F.ntmps = fn.ntmps ∧ F.results.toList = fn.res ∧ (F.name == "runtime.NumGoroutine") = false
theorem run_enter {f : FuncId} {F : Func} {c : Code} (hf : P.funcs[f]? = some F) (hb : F.body = some c) (hn : (F.name == "runtime.NumGoroutine") = false) (args : Array Value) (w : World) : (callFunc f args).run P w = .ok (.enter f args) w := by
  have hne : F.name ≠ "runtime.NumGoroutine" := by simpa using hn
  simp [callFunc, hf, hb, hne]
theorem upon_mono {o : Oper} {a : Act} {K K' : Act → World → Prop} {Q : Exit → Act → World → Prop} {r : Result Next} (h : ∀ a w, K a w → K' a w) (hh : o.upon P a K Q r) : o.upon P a K' Q r := by
  cases r with
  | ok n w' =>
    cases n <;> simp only [Oper.upon] at hh ⊢ <;>
      first
        | exact h _ _ hh
        | exact Calls.mono hh (fun e w'' he => by cases e <;> first | exact h _ _ he | exact he)
        | exact Rows.mono hh (fun _ _ he => h _ _ he)
  | halt x w' => cases x <;> simp only [Oper.upon] at hh ⊢ <;> exact hh

/-! what is called at the end -/
def MR (m : Mu) : Option Value → Bool → FrameMode → Prop
  | none, _, .returning => True
  | some v, b, .panicking [x] => x.recovered = b ∧ x.goexit = false ∧ VR m v x.v
  | _, _, _ => False
theorem MR.mono {m m' : Mu} (hm : m.le m') {u : Option Value} {b : Bool} {md : FrameMode} (h : MR m u b md) : MR m' u b md := by
  unfold MR at *
  split at h
  · trivial
  · exact ⟨h.1, h.2.1, h.2.2.mono hm⟩
  · exact h.elim
theorem MR.some_inv {m : Mu} {v : Value} {b : Bool} {md : FrameMode} (h : MR m (some v) b md) : ∃ x, md = .panicking [x] ∧ x.recovered = b ∧ x.goexit = false ∧ VR m v x.v := by
  unfold MR at h
  split at h
  · rename_i e; cases e
  · rename_i e; cases e; exact ⟨_, rfl, h⟩
  · exact h.elim
theorem MR.none_inv {m : Mu} {b : Bool} {md : FrameMode} (h : MR m none b md) : md = .returning := by
  unfold MR at h
  split at h
  · rfl
  · rename_i e; cases e
  · exact h.elim
def PostD (base : Nat) (m : Mu) (H : AHeap) (w : World) (nt : Nat) (c₀ : Frame) (cs : List Frame) (r : Ex × StD) : Exit → Act → List Frame → World → Prop := fun e a' cs' w' =>
  ∃ m' md, ExR m' r.1 e ∧ SR m' nt r.2.s a' ∧ Stp base m H w m' r.2.s.H w' (New H.next r.2.s.H.next) ∧ Fresh m' r.2.s.H.next ∧ H.next ≤ r.2.s.H.next ∧ MR m' r.2.u r.2.got md ∧ cs' = { c₀ with mode := md } :: cs
theorem PostD.trans {base : Nat} {m m1 : Mu} {H H1 : AHeap} {w w1 : World} {nt : Nat} {c₀ : Frame} {cs : List Frame} {r : Ex × StD} {e : Exit} {a' : Act} {cs' : List Frame} {w' : World} (h : Stp base m H w m1 H1 w1 (New H.next H1.next)) (hn : H.next ≤ H1.next)
    (k : PostD base m1 H1 w1 nt c₀ cs r e a' cs' w') : PostD base m H w nt c₀ cs r e a' cs' w' := by
  obtain ⟨m', md, x1, x2, x4, x5, x6, x7⟩ := k
  refine ⟨m', md, x1, x2, h.trans x4 (fun i hi => ?_) (fun i hi => ?_), x5, Nat.le_trans hn x6, x7⟩
  · exact ⟨hi.1, Nat.lt_of_lt_of_le hi.2 (Nat.mul_le_mul_right _ x6)⟩
  · exact ⟨Nat.le_trans (Nat.mul_le_mul_right _ hn) hi.1, hi.2⟩
theorem wpS_mono {c : Code} {Q Q' : Exit → Act → List Frame → World → Prop} {a : Act} {cs : List Frame} {w : World} (hq : ∀ e a cs w, Q e a cs w → Q' e a cs w) (h : c.wpS P Q a cs w) : c.wpS P Q' a cs w :=
  fun b k hb hr => let ⟨e, a', cs', w', q, r⟩ := h b k hb hr; ⟨e, a', cs', w', hq _ _ _ _ q, r⟩

/-- one operation of such a function -/
theorem runOpsD_ok (hT : TabOk P T) {C : CallF} (hC : CallOk False P C) {nt : Nat} {ops : Array Oper} {stamp : Nat} {c₀ : Frame} {cs : List Frame} : ∀ (l : List Oper) (i : Nat) {s : StD} {r : Ex × StD}, ops.toList.drop i = l → runOpsD T nt C ops.toList stamp i l s = some r →
    ∀ {base : Nat} {m : Mu} {a : Act} {w : World} {md : FrameMode}, R base m s.s.H w → base ≤ w.heap.size → SR m nt s.s a → MR m s.u s.got md → (∀ b l, m b = some l → Used stamp (· < i) s.s.H.next b) → stamp < s.s.H.next →
    ∀ {Q : Exit → Act → List Frame → World → Prop}, (∀ e a' w' m' md', ExR m' r.1 e → SR m' nt r.2.s a' → MR m' r.2.u r.2.got md' → Stp base m s.s.H w m' r.2.s.H w' (fun b => ¬ Used stamp (· < i) s.s.H.next b) → (∀ b l, m' b = some l → Used stamp (· < 256) r.2.s.H.next b) → s.s.H.next ≤ r.2.s.H.next → Q e a' ({ c₀ with mode := md' } :: cs) w') →
    i ≤ 256 → wpOpsS P ops Q (List.range' i l.length) a ({ c₀ with mode := md } :: cs) w := by
  intro l
  induction l with
  | nil =>
    intro i s r hl h base m a w md hR hb he hmd hu hst Q hQ hi
    obtain rfl := Option.some.inj h
    exact hQ .normal a w m md trivial he hmd (Stp.refl hR _) (fun b l hb => (hu b l hb).mono (fun j hj => Nat.lt_of_lt_of_le hj hi) (Nat.le_refl _)) (Nat.le_refl _)
  | cons o l ih =>
    intro i s r hl h base m a w md hR hb he hmd hu hst Q hQ hi
    have hoi : ops[i]? = some o := by
      have : (ops.toList.drop i)[0]? = some o := by rw [hl]; rfl
      simpa using this
    have hl' : ops.toList.drop (i + 1) = l := by rw [← List.drop_drop, hl]; rfl
    have hplus : ∀ j, Plus (· < i) i j → j < i + 1 := fun j hj => by
      rcases hj with h1 | h1
      · exact Nat.lt_succ_of_lt h1
      · exact h1 ▸ Nat.lt_succ_self _
    rw [List.length_cons, List.range'_succ]
    simp only [wpOpsS, hoi]
    simp only [runOpsD] at h
    split at h
    · cases h
    · -- a panic
      rename_i v s1 hs
      obtain rfl := Option.some.inj h
      unfold opStepD at hs
      split at hs
      · split at hs
        · cases hs
        · split at hs <;> (split at hs <;> cases hs)
      · split at hs
        case h_2 => cases hs
        rename_i p s2 hs2
        obtain ⟨rfl, rfl⟩ := Prod.mk.inj (Option.some.inj hs)
        have hi256 : i < 256 := by
          rcases Nat.lt_or_ge i 256 with q | q
          · exact q
          · exfalso
            have : Nat.ble 256 i = true := Nat.ble_eq_true_of_le q
            simp [opStep, this] at hs2
        have key := opStep_ok (S := (· < i)) (K := fun _ _ => False) (Q := fun e a w => Q e a ({ c₀ with mode := md } :: cs) w) hT hC hs2 hR hb he.env (Nat.lt_irrefl i) hu hst (fun _ _ _ hpv => by cases hpv)
          (fun v' m' u w' hpv hds henv hv hd => by
            cases hpv
            exact hQ _ a w' m' md ⟨u, rfl, hv⟩ ⟨by rw [henv]; exact he.env.mono hd.stp.ext.1, by rw [hds]; exact he.ds.mono hd.stp.ext.1⟩ (hmd.mono hd.stp.ext.1) hd.stp
              (fun b l hb => (hd.used b l hb).mono (fun j hj => Nat.lt_of_lt_of_le (hplus j hj) hi256) (Nat.le_refl _)) hd.next)
        split
        · rename_i hw
          rw [if_pos hw] at key
          have key := key.upon
          generalize (execOp a.eval o).run P w = res at key
          split
          · exact key.elim
          · exact upon_mono (fun _ _ h => h.elim) key
        · rename_i hw
          rw [if_neg hw] at key
          exact key.elim
    · rename_i s1 hs
      unfold opStepD at hs
      split at hs
      · -- recover
        rename_i args tys hw hop
        split at hs
        · cases hs
        rename_i hi'
        have hi256 : i < 256 := by
          have : ¬ 256 ≤ i := fun hh => hi' (Nat.ble_eq_true_of_le hh)
          omega
        have hwn := wants_ok he.env hw
        rw [if_pos hwn]
        have hrun : (execOp a.eval o).run P w = .ok .recover w := by
          obtain ⟨dst, op, type, pos, after, guard⟩ := o
          simp only at hop
          subst hop
          simp [execOp, resolve, invoke, builtin]
        rw [hrun]
        have goal : ∀ (v v' : Value) (md' : FrameMode) (u' : Option Value) (g' : Bool) (en : AEnv), putT nt s.s.env o.dst v = some en → VR m v v' → MR m u' g' md' → s1 = ⟨⟨en, s.s.H, s.s.ds⟩, u', g'⟩ →
            wpOpsS P ops Q (List.range' (i + 1) l.length) (a.put o.dst v') ({ c₀ with mode := md' } :: cs) w := fun v v' md' u' g' en hp hv hmd' e => by
          subst e
          refine ih (i + 1) hl' h hR hb ⟨put_ok he.env hp hv, by rw [put_defers]; exact he.ds⟩ hmd' (fun b l hb => (hu b l hb).mono (fun j hj => Nat.lt_succ_of_lt hj) (Nat.le_refl _)) hst ?_ hi256
          intro e a2 w2 m2 md2 x1 x2 x3 x4 x5 x6
          exact hQ e a2 w2 m2 md2 x1 x2 x3 (x4.weaken fun b hb hub => hb (hub.mono (fun j hj => Nat.lt_succ_of_lt hj) (Nat.le_refl _))) x5 x6
        split at hs
        · rename_i v hu1 hg1
          split at hs
          case h_2 => cases hs
          rename_i en hp
          obtain ⟨_, rfl⟩ := Prod.mk.inj (Option.some.inj hs)
          rw [hu1, hg1] at hmd
          obtain ⟨x, rfl, hx1, hx2, hx3⟩ := hmd.some_inv
          obtain ⟨xv, xr, xg⟩ := x
          simp only at hx1 hx2 hx3
          subst hx1 hx2
          exact goal v xv (.panicking [{ v := xv, recovered := true }]) (some v) true en hp hx3 ⟨rfl, rfl, hx3⟩ rfl
        · rename_i hno
          split at hs
          case h_2 => cases hs
          rename_i en hp
          obtain ⟨_, rfl⟩ := Prod.mk.inj (Option.some.inj hs)
          have hrec : recoverD ({ c₀ with mode := md } :: cs) = none := by
            cases hu1 : s.u with
            | none => rw [hu1] at hmd; rw [hmd.none_inv]; rfl
            | some v =>
              cases hg1 : s.got with
              | false => exact absurd hg1 (hno v hu1)
              | true =>
                rw [hu1, hg1] at hmd
                obtain ⟨x, rfl, hx1, _⟩ := hmd.some_inv
                obtain ⟨xv, xr, xg⟩ := x
                simp only at hx1
                subst hx1
                rfl
          simp only [hrec]
          exact goal .nilIface .nilIface md s.u s.got en hp .nili hmd rfl
      · split at hs
        case h_2 => cases hs
        rename_i p s2 hs2
        obtain ⟨rfl, rfl⟩ := Prod.mk.inj (Option.some.inj hs)
        have hi256 : i < 256 := by
          rcases Nat.lt_or_ge i 256 with q | q
          · exact q
          · exfalso
            have : Nat.ble 256 i = true := Nat.ble_eq_true_of_le q
            simp [opStep, this] at hs2
        have key := opStep_ok (S := (· < i)) (K := fun a' w' => wpOpsS P ops Q (List.range' (i + 1) l.length) a' ({ c₀ with mode := md } :: cs) w') (Q := fun e a w => Q e a ({ c₀ with mode := md } :: cs) w) hT hC hs2 hR hb he.env (Nat.lt_irrefl i) hu hst
          (fun m' a' w' _ hd he' _ hds => by
            refine ih (i + 1) hl' h hd.stp.rel (Nat.le_trans hb hd.stp.fr.size) ⟨he', ?_⟩ (hmd.mono hd.stp.ext.1) (fun b l hb => (hd.used b l hb).mono hplus (Nat.le_refl _)) (Nat.lt_of_lt_of_le hst hd.next) ?_ hi256
            · rcases hds with ⟨h1, h2⟩ | ⟨d, d', h1, h2, h3⟩
              · rw [h1, h2]; exact he.ds.mono hd.stp.ext.1
              · rw [h1, h2]; exact .cons h3 (he.ds.mono hd.stp.ext.1)
            intro e a2 w2 m2 md2 x1 x2 x3 x4 x5 x6
            refine hQ e a2 w2 m2 md2 x1 x2 x3 (hd.stp.trans x4 (fun _ h => h) (fun b hb hub => hb ?_)) x5 (Nat.le_trans hd.next x6)
            exact hub.mono (fun j hj => Nat.lt_succ_of_lt hj) hd.next)
          (fun v' _ _ _ hpv => by cases hpv)
        split
        · rename_i hw
          rw [if_pos hw] at key
          have key := key.upon
          generalize (execOp a.eval o).run P w = res at key
          split
          · exact key.elim
          · exact key
        · rename_i hw
          rw [if_neg hw] at key
          exact key
theorem Fresh.used {m : Mu} {n : Nat} (h : Fresh m n) {S : Nat → Prop} {k : Nat} : ∀ b l, m b = some l → Used n S k b := fun b l hb => .inl (h b l hb)
theorem runD_ok (hm : P.follows .mixedOrders = true) (hT : TabOk P T) {C : CallF} (hC : CallOk False P C) {nt fuel : Nat} {c₀ : Frame} {cs : List Frame} : ∀ (n : Nat) (c : Code) (s : StD) (r : Ex × StD), runD T nt C fuel n c s = some r →
    ∀ {base : Nat} {m : Mu} {a : Act} {w : World} {md : FrameMode}, R base m s.s.H w → base ≤ w.heap.size → SR m nt s.s a → Fresh m s.s.H.next → MR m s.u s.got md → c.wpS P (PostD base m s.s.H w nt c₀ cs r) a ({ c₀ with mode := md } :: cs) w := by
  intro n
  induction n with
  | zero => intro c s r h; cases h
  | succ n ih =>
    intro c s r h base m a w md hR hb he hf hmd
    have other : ∀ (c : Code), liftD s (run T nt C fuel c s.s) = some r → c.wpS P (PostD base m s.s.H w nt c₀ cs r) a ({ c₀ with mode := md } :: cs) w := fun c h => by
      unfold liftD at h
      split at h
      case h_2 => cases h
      rename_i x s1 hrun
      obtain rfl := Option.some.inj h
      refine wpS_of_wp (Code.wp_mono (fun e a' w' hp => ?_) ((run_ok hm hT hC fuel _ _ _ hrun).wp hR hb he hf))
      obtain ⟨m', x1, x2, x4, x5, x6⟩ := hp
      exact ⟨m', md, x1, x2, x4, x5, x6, hmd.mono x4.ext.1, rfl⟩
    cases c with
    | seq x y =>
      simp only [runD] at h
      refine wpS_seq ?_
      split at h
      · rename_i s1 hx
        refine wpS_mono (fun e a' cs' w' hp => ?_) (ih x s _ hx hR hb he hf hmd)
        obtain ⟨m', md', x1, x2, x4, x5, x6, x7, rfl⟩ := hp
        cases e <;> first | exact x1.elim | skip
        exact wpS_mono (fun e a cs w hq => PostD.trans x4 x6 hq) (ih y s1 r h x4.rel (Nat.le_trans hb x4.fr.size) x2 x5 x7)
      · rename_i hno
        refine wpS_mono (fun e a' cs' w' hp => ?_) (ih x s _ h hR hb he hf hmd)
        cases e <;> first | exact hp | skip
        obtain ⟨m', md', x1, _⟩ := hp
        obtain ⟨x0, s0⟩ := r
        cases x0 <;> first | exact x1.elim | exact absurd h (hno _)
    | region id ops draw =>
      cases draw with
      | true => exact other _ h
      | false =>
        simp only [runD] at h
        refine wpS_region ?_
        rw [List.range_eq_range', show ops.size = ops.toList.length by simp]
        refine runOpsD_ok hT hC ops.toList 0 rfl h ⟨hR.live, hR.inj⟩ hb ⟨he.env, he.ds⟩ hmd (Fresh.used hf) (Nat.lt_succ_self _) ?_ (Nat.zero_le _)
        intro e a' w' m' md' x1 x2 x3 x4 x5 x6
        obtain ⟨y1, y2, y3⟩ := region_stp hf (x4.weaken fun b hb hub => hb (hub.mono (fun j hj => hj.elim) (Nat.le_refl _))) x5 x6
        exact ⟨m', md', x1, x2, y1, y2, y3, x3, rfl⟩
    | skip => exact other _ h
    | cond _ _ _ => exact other _ h
    | block _ _ => exact other _ h
    | loop _ => exact other _ h
    | rangeFunc _ _ _ _ => exact other _ h
    | exit _ => exact other _ h
    | scope _ => exact other _ h
    | label _ => exact other _ h
    | goto _ => exact other _ h
    | ret => exact other _ h
    | refuse _ => exact other _ h

/-- leaving, marks taken in -/
def LeavesM (P : Program) (fn : Func) (tmps : Array Value) (R : Ending → World → Prop) : List Deferred → FrameMode → World → Prop
  | [], u, w => Leaves P fn tmps R [] u w
  | d :: ds, u, w => u ≠ .run ∧
      ((∃ r w', d.target = .collected r ∧ (Instr.takeDeferred r).run P w = .ok [] w' ∧ LeavesM P fn tmps R ds u w') ∨
       ∃ fv cap f args, d.target = .fn fv cap ∧ (invoke d.target d.args).run P w = .ok (.enter f args) w ∧
        CallsD P f args u w fun
          | .returned _, u', w' => LeavesM P fn tmps R ds (settle u') w'
          | .panicked chain, u', w' => LeavesM P fn tmps R ds (raised u' chain) w'
          | .outgrown, _, w' => R .outgrown w')
theorem leaves_stepsM {fn : Func} {tmps : Array Value} {R : Ending → World → Prop} : ∀ (ds : List Deferred) (u : FrameMode) (w : World) (fr : Frame)
    (cs : List Frame), fr.mode = u → fr.defers = ds → fr.tmps = tmps → P.funcs[fr.fn]? = some fn → fr.kind = .normal → LeavesM P fn tmps R ds u w →
    ∃ e w' fr', R e w' ∧ Comes P (lone fr cs w) (lone fr' cs w') e ∧ fr'.fn = fr.fn ∧ fr'.leaving P w' e := by
  intro ds
  induction ds with
  | nil => exact fun u w fr cs hu hd ht hf hk h => leaves_steps [] u w fr cs hu hd ht hf hk h
  | cons d ds ih =>
    intro u w fr cs hu hd ht hf hk h
    obtain ⟨hrun, h⟩ := h
    rcases h with ⟨r, w', htar, htake, hrest⟩ | ⟨fv, cap, f, args, htar, hinv, hcall⟩
    · have h1 := step_collected (cs := cs) (hu ▸ hrun) hd htar htake
      obtain ⟨e', w'', fr', hR', hs', hfn', hl'⟩ := ih u w' { fr with defers := [] ++ ds } cs hu rfl ht hf hk hrest
      exact ⟨e', w'', fr', hR', Comes.of_steps (.one h1) hs', hfn', hl'⟩
    · have h1 := step_defer (cs := cs) (hu ▸ hrun) hd htar hinv
      obtain ⟨e, u', w', frX, hR, hsteps, hkX, hgo⟩ := hcall { fr with defers := ds } cs hu
      cases e with
      | returned v =>
        have h2 := step_going_returned (c := { { fr with defers := ds } with mode := u' }) (cs := cs) hkX hgo
        obtain ⟨e', w'', fr', hR', hs', hfn', hl'⟩ := ih (settle u') w' { { { fr with defers := ds } with mode := u' } with mode := settle u' } cs rfl rfl ht hf hk hR
        exact ⟨e', w'', fr', hR', Comes.of_steps (.head h1 (Steps.trans hsteps (.one h2))) hs', hfn', hl'⟩
      | panicked chain =>
        have h2 := step_going_panicked (c := { { fr with defers := ds } with mode := u' }) (cs := cs) hgo
        obtain ⟨e', w'', fr', hR', hs', hfn', hl'⟩ := ih (raised u' chain) w' { { { fr with defers := ds } with mode := u' } with mode := raised u' chain } cs rfl rfl ht hf hk hR
        exact ⟨e', w'', fr', hR', Comes.of_steps (.head h1 (Steps.trans hsteps (.one h2))) hs', hfn', hl'⟩
      | outgrown => exact ⟨.outgrown, w', fr, hR, Outgrown.of_steps (.one h1) hsteps, rfl, trivial⟩
def bodyPostDM (P : Program) (fn : Func) (R : Ending → World → Prop) : Exit → Act → World → Prop
  | .normal, a, w | .ret, a, w => LeavesM P fn a.tmps R a.defers .returning w
  | .panic chain, a, w => LeavesM P fn a.tmps R a.defers (.panicking chain) w
  | .outgrown, _, w => R .outgrown w
  | _, _, _ => False
theorem calls_of_wp_marks {f : FuncId} {fn : Func} {c : Code} {args : Array Value} {w : World} {R : Ending → World → Prop}
    (hf : P.funcs[f]? = some fn) (hb : fn.body = some c)
    (h : c.wp P (bodyPostDM P fn R) { tmps := args ++ Array.replicate (fn.ntmps - args.size) undef, defers := [] } w) : Calls P f args w R := by
  intro cs
  let b : Frame := { (default : Frame) with fn := f, kind := .normal }
  have henter : Frame.enter P f args .normal =
      b.at { tmps := args ++ Array.replicate (fn.ntmps - args.size) undef, defers := [] } [.code c] := by
    simp [Frame.enter, Frame.at, hf, hb, b]
  obtain ⟨e, a', w', hq, harr⟩ := h b [] cs
  rw [← henter] at harr
  cases e with
  | normal =>
    obtain ⟨e', w'', fr', hR, hs, hfn, hl⟩ := leaves_stepsM a'.defers .returning w' { b.at a' [] with mode := .returning } cs rfl rfl rfl hf rfl hq
    exact ⟨e', w'', fr', hR, Comes.of_steps (Steps.trans harr (.one step_end)) hs, hfn, hl⟩
  | ret =>
    obtain ⟨todo, hs₀⟩ := harr
    obtain ⟨e', w'', fr', hR, hs, hfn, hl⟩ := leaves_stepsM a'.defers .returning w' { b.at a' todo with mode := .returning } cs rfl rfl rfl hf rfl hq
    exact ⟨e', w'', fr', hR, Comes.of_steps hs₀ hs, hfn, hl⟩
  | panic chain =>
    obtain ⟨todo, hs₀⟩ := harr
    obtain ⟨e', w'', fr', hR, hs, hfn, hl⟩ := leaves_stepsM a'.defers (.panicking chain) w' { b.at a' todo with mode := .panicking chain } cs rfl rfl rfl hf rfl hq
    exact ⟨e', w'', fr', hR, Comes.of_steps hs₀ hs, hfn, hl⟩
  | exit id => exact hq.elim
  | goto l => exact hq.elim
  | outgrown => exact ⟨.outgrown, w', b, hq, harr.resolve_left (by simp [b]), rfl, trivial⟩

theorem MR.settle {m : Mu} {u : Option Value} {b : Bool} {md : FrameMode} (h : MR m u b md) : MR m (if b then none else u) false (settle md) := by
  cases u with
  | none => rw [h.none_inv]; cases b <;> trivial
  | some v =>
    obtain ⟨⟨xv, xr, xg⟩, rfl, hx1, hx2, hx3⟩ := h.some_inv
    simp only at hx1 hx2 hx3
    subst hx1 hx2
    cases xr
    · exact ⟨rfl, rfl, hx3⟩
    · trivial
/-- the functions that are called at the end -/
theorem leaveF_ok (hm : P.follows .mixedOrders = true) {Pr : Prg} (hT : TabOk P Pr.tab) (hF : FnsOk P Pr.fns) {fuel : Nat} {C : CallF} {rd : Prop} (hC' : CallOk rd P C) {fn : Fn1} {F : Func} (hFr : F.results.toList = fn.res) {env : AEnv} {nt : Nat}
    {base : Nat} {m0 : Mu} {H0 : AHeap} {w0 : World} (hb : base ≤ w0.heap.size) {r : Ret} {H1 : AHeap} {a : Act} : ∀ (ds : List ADef) {ds' : List Deferred} {u : Option Value} {md : FrameMode} {H : AHeap} {m : Mu} {w : World}, leaveF Pr fuel C fn env ds u H = some (r, H1) →
      Stp base m0 H0 w0 m H w (New H0.next H.next) → Fresh m H.next → H0.next ≤ H.next → ERel m nt env a → DRs m ds ds' → MR m u false md → LeavesM P F a.tmps (CallPost base m0 H0 w0 r H1) ds' md w := by
  intro ds
  induction ds with
  | nil =>
    intro ds' u md H m w h hS hf hn he hds hmd
    cases hds
    cases u with
    | none =>
      simp only [leaveF] at h
      split at h
      · rename_i vs hvs
        obtain ⟨rfl, rfl⟩ := Prod.mk.inj (Option.some.inj h)
        obtain ⟨v', h1, h2⟩ := results_ok (P := P) hT hS.rel he hFr hvs
        rw [hmd.none_inv]
        exact ⟨v', h1, _, m, rfl, h2, hS, hf, hn⟩
      · cases h
    | some v =>
      simp only [leaveF] at h
      obtain ⟨rfl, rfl⟩ := Prod.mk.inj (Option.some.inj h)
      obtain ⟨⟨xv, xr, xg⟩, rfl, hx1, hx2, hx3⟩ := hmd.some_inv
      simp only at hx1 hx2 hx3
      subst hx1 hx2
      exact ⟨v, xv, m, rfl, rfl, hx3, hS, hf, hn⟩
  | cons d ds ih =>
    intro ds' u md H m w h hS hf hn he hds hmd
    cases hds with
    | cons hd hds =>
    rename_i d' l'
    have hC : CallOk False P (noYield C) := hC'.noYield
    have hrun : md ≠ .run := by
      cases u with
      | none => rw [hmd.none_inv]; simp
      | some v => obtain ⟨x, rfl, _⟩ := hmd.some_inv; simp
    simp only [leaveF] at h
    rcases hd with ⟨hcol, cap', ht, hargs, hcap⟩ | ⟨D, lD, hcol, hD, ht⟩
    case inr =>
      rw [hcol] at h
      simp only at h
      split at h
      case h_2 => cases h
      rename_i hdf
      have hblk : w.heap[lD.blk]? = some (.deferred (some [])) := (hS.rel.at hdf hD).2
      have hlt : lD.blk < w.heap.size := (Array.getElem?_eq_some_iff.1 hblk).1
      have hX : Stp base m H w m (H.put D none) (w.putObj lD.blk (.deferred none)) (New H.next (H.put D none).next) :=
        hS.rel.drop hdf hD (putObj_same _ _ _) (fun k hk => World.putObj_heap_other hk) _
      exact ⟨hrun, .inl ⟨lD.blk, _, ht, run_takeDeferred hblk, ih h (hS.new_trans hn hX (Nat.le_refl _)) hf hn he hds hmd⟩⟩
    obtain ⟨tg, dargs⟩ := d'
    simp only at ht hargs
    subst ht
    rw [hcol] at h
    simp only at h
    split at h
    · cases h
    rename_i g hg
    split at h
    · cases h
    rename_i hlen
    obtain ⟨G, g1, g2, g3, g4, g5⟩ := hF d.f g hg
    refine ⟨hrun, .inr ⟨_, cap', d.f, dargs ++ cap', rfl, by simpa [invoke] using run_enter g1 g2 g5 (dargs ++ cap') w, ?_⟩⟩
    have hall : VRs m (d.args ++ d.cap) (dargs ++ cap').toList := by simpa using hargs.append hcap
    refine callsD_of_wpS g1 g2 fun c₀ cs hc0 => ?_
    have hc0' : c₀ = { c₀ with mode := md } := by subst hc0; rfl
    have hlen' : (d.args ++ d.cap).length ≤ g.ntmps := by
      rcases Nat.lt_or_ge g.ntmps (d.args ++ d.cap).length with q | q
      · exact absurd (by simpa [Nat.blt_eq] using q) hlen
      · exact q
    have hent : SR m g.ntmps ⟨putArgs 0 (d.args ++ d.cap) .emp, H, []⟩ { tmps := (dargs ++ cap') ++ Array.replicate (G.ntmps - (dargs ++ cap').size) undef, defers := [] } := ⟨by rw [g3]; exact enter_rel hall hlen', .nil⟩
    conv => arg 5; rw [hc0']
    have hb2 := Nat.le_trans hb hS.fr.size
    cases hD : runD Pr.tab g.ntmps (noYield C) fuel 20 g.body ⟨⟨putArgs 0 (d.args ++ d.cap) .emp, H, []⟩, u, false⟩ with
    | none => rw [hD] at h; cases h
    | some rr =>
      rw [hD] at h
      have key := runD_ok hm hT hC (c₀ := c₀) (cs := cs) 20 g.body _ rr hD hS.rel hb2 hent hf hmd
      refine wpS_mono (fun e a' cs' w' hp => ?_) key
      obtain ⟨m', md', x1, x2, x4, x5, x6, x7, rfl⟩ := hp
      have hS' := hS.trans x4 (fun i hi => (⟨hi.1, Nat.lt_of_lt_of_le hi.2 (Nat.mul_le_mul_right _ x6)⟩ : New H0.next rr.2.s.H.next i)) (fun i hi => ⟨Nat.le_trans (Nat.mul_le_mul_right _ hn) hi.1, hi.2⟩)
      obtain ⟨x0, ⟨⟨en, H2, dl⟩, u1, gb⟩⟩ := rr
      cases dl with
      | cons d1 dl =>
        cases x0 <;> first | cases h | (cases u1 <;> cases h)
      | nil =>
        have hds0 : a'.defers = [] := by
          have := x2.ds
          generalize a'.defers = z at this
          cases this; rfl
        have back : ∀ v, aresults Pr.tab en H2 g.res = some v → leaveF Pr fuel C fn env ds (if gb then none else u1) H2 = some (r, H1) → ∃ v', (results G a'.tmps).run P w' = .ok v' w' ∧ LeavesM P F a.tmps (CallPost base m0 H0 w0 r H1) l' (settle md') w' := fun vs hvs h => by
          obtain ⟨v', k1, k2⟩ := results_ok (P := P) hT x4.rel x2.env g4 hvs
          exact ⟨v', k1, ih h hS' x5 (Nat.le_trans hn x6) (he.mono x4.ext.1) (hds.mono x4.ext.1) x7.settle⟩
        cases x0 with
        | normal =>
          cases e <;> first | exact x1.elim | skip
          simp only at h
          split at h
          · rename_i vs hvs
            obtain ⟨v', k1, k2⟩ := back vs hvs h
            exact ⟨hds0, md', rfl, v', k1, k2⟩
          · cases h
        | ret =>
          cases e <;> first | exact x1.elim | skip
          simp only at h
          split at h
          · rename_i vs hvs
            obtain ⟨v', k1, k2⟩ := back vs hvs h
            exact ⟨hds0, md', rfl, v', k1, k2⟩
          · cases h
        | panic v =>
          cases e <;> first | exact x1.elim | skip
          obtain ⟨v', rfl, hv⟩ := x1
          cases u1 with
          | some _ => cases h
          | none =>
            refine ⟨hds0, md', rfl, ?_⟩
            rw [x7.none_inv]
            exact ih h hS' x5 (Nat.le_trans hn x6) (he.mono x4.ext.1) (hds.mono x4.ext.1) ⟨rfl, rfl, hv⟩
        | exit _ => cases h
        | goto _ => cases h

theorem enterF_ok (hm : P.follows .mixedOrders = true) {Pr : Prg} (hT : TabOk P Pr.tab) (hF : FnsOk P Pr.fns) {fuel : Nat} {C : CallF} {rd : Prop} (hC : CallOk rd P C) {fn : Fn1} {F : Func} {f : FuncId} (g1 : P.funcs[f]? = some F) (g2 : F.body = some fn.body) (g3 : F.ntmps = fn.ntmps) (g4 : F.results.toList = fn.res)
    {base : Nat} {m : Mu} {H : AHeap} {w : World} {args : List Value} {args' : Array Value} {r : Ret} {H1 : AHeap} (hR : R base m H w) (hb : base ≤ w.heap.size) (hf : Fresh m H.next) (ha : VRs m args args'.toList)
    (h : enterF Pr fuel C fn args H = some (r, H1)) : Calls P f args' w (CallPost base m H w r H1) := by
  unfold enterF at h
  split at h
  · cases h
  rename_i hlen
  have hlen' : args.length ≤ fn.ntmps := by
    rcases Nat.lt_or_ge fn.ntmps args.length with q | q
    · exact absurd (by simpa [Nat.blt_eq] using q) hlen
    · exact q
  have hent : SR m fn.ntmps ⟨putArgs 0 args .emp, H, []⟩ { tmps := args' ++ Array.replicate (F.ntmps - args'.size) undef, defers := [] } := ⟨by rw [g3]; exact enter_rel ha hlen', .nil⟩
  refine calls_of_wp_marks g1 g2 ?_
  cases hr : run Pr.tab fn.ntmps C fuel fn.body ⟨putArgs 0 args .emp, H, []⟩ with
  | none => rw [hr] at h; cases h
  | some rr =>
    rw [hr] at h
    refine Code.wp_mono (fun e a' w' hp => ?_) ((run_ok hm hT hC fuel _ _ _ hr).wp hR hb hent hf)
    obtain ⟨m', x1, x2, x4, x5, x6⟩ := hp
    obtain ⟨x0, s1⟩ := rr
    cases x0 with
    | normal =>
      cases e <;> first | exact x1.elim | skip
      exact leaveF_ok hm hT hF hC g4 hb s1.ds h x4 x5 x6 x2.env x2.ds trivial
    | ret =>
      cases e <;> first | exact x1.elim | skip
      exact leaveF_ok hm hT hF hC g4 hb s1.ds h x4 x5 x6 x2.env x2.ds trivial
    | panic v =>
      cases e <;> first | exact x1.elim | skip
      obtain ⟨v', rfl, hv⟩ := x1
      exact leaveF_ok hm hT hF hC g4 hb s1.ds h x4 x5 x6 x2.env x2.ds ⟨rfl, rfl, hv⟩
    | exit _ => cases h
    | goto _ => cases h

/-- what a law says of a function holds -/
def LawOk (P : Program) (f : FuncId) (k : List Value → AHeap → Option (Ret × AHeap)) : Prop := ∀ base m H w args (args' : Array Value) r H1, R base m H w → base ≤ w.heap.size → Fresh m H.next → VRs m args args'.toList → k args H = some (r, H1) →
  Meets False P (CallPost base m H w r H1) ((callFunc f args').run P w)
theorem callN_ok (hm : P.follows .mixedOrders = true) {Pr : Prg} (hT : TabOk P Pr.tab) (hF : FnsOk P Pr.fns) (hL : ∀ f k, Pr.law.get f = some k → LawOk P f k) {fuel : Nat} : ∀ n, CallOk True P (callN Pr fuel n) := by
  intro n
  induction n with
  | zero => exact ⟨fun _ _ _ _ _ _ _ _ _ _ _ _ _ h => (by cases h), fun _ _ _ _ _ _ _ _ _ _ _ _ _ _ _ h => (by cases h), fun _ _ _ _ _ _ _ _ _ _ _ _ _ _ h => by cases h⟩
  | succ n ih =>
    refine ⟨fun base m H w f args args' r H1 hR hb hf ha h => ?_, fun base m H w b l args args' r H1 hR hb hf hl ha h => ⟨trivial, ?_⟩, fun base m H w f nm args args' r H1 hR hb hf ha h => ?_⟩
    · simp only [callN] at h
      split at h
      · rename_i k hk
        exact hL f k hk base m H w args args' r H1 hR hb hf ha h
      · split at h
        · rename_i fn hfn
          obtain ⟨F, g1, g2, g3, g4, g5⟩ := hF f fn hfn
          rw [run_enter g1 g2 g5]
          exact enterF_ok hm hT hF ih g1 g2 g3 g4 hR hb hf ha h
        · cases h
    · exact roundF_ok hm hT ih hR hb hf hl ha h
    · simp only [callN] at h
      split at h
      · rename_i fn hfn
        obtain ⟨F, g1, g2, g3, g4, g5⟩ := hF f fn hfn
        exact ⟨fun args w => run_enter g1 g2 g5 args w, enterF_ok hm hT hF ih g1 g2 g3 g4 hR hb hf ha h⟩
      · cases h

/-- a call that the quick way carries out, of a function with a body -/
theorem calls_of_run (hm : P.follows .mixedOrders = true) {Pr : Prg} (hT : TabOk P Pr.tab) (hF : FnsOk P Pr.fns) (hL : ∀ f k, Pr.law.get f = some k → LawOk P f k) {fuel n : Nat} {f : FuncId} {fn : Fn1} (hfn : Pr.fns.get f = some fn) {args : List Value} {v : Value} {H1 : AHeap}
    (hp : plainAll args = true) (h : enterF Pr fuel (callN Pr fuel n) fn args ⟨1, .emp⟩ = some (.ret v, H1)) (hv : ∀ m v', VR m v v' → v' = v) (w : World) :
    Calls P f ⟨args⟩ w fun e w' => e = .returned v ∧ RowKit.Below w.heap.size w w' := by
  obtain ⟨F, g1, g2, g3, g4, g5⟩ := hF f fn hfn
  have h0 : ∀ b, (⟨1, .emp⟩ : AHeap).get b = none := fun b => Tr.get_e b
  have hR : R w.heap.size (fun _ => none) ⟨1, .emp⟩ w := ⟨fun b B hb => (by rw [h0] at hb; cases hb), fun b c B C l k hb => (by rw [h0] at hb; cases hb)⟩
  refine Calls.mono (enterF_ok hm hT hF (callN_ok hm hT hF hL n) g1 g2 g3 g4 hR (Nat.le_refl _) (fun b l hb => by cases hb) (plainAll_VRs _ hp) h) fun e w' he => ?_
  cases e with
  | returned v' =>
    obtain ⟨v0, m', q1, q2, q3, _⟩ := he
    cases q1
    exact ⟨by rw [hv m' v' q2], q3.fr.below hR (Nat.le_refl _)⟩
  | panicked _ => obtain ⟨_, _, _, q1, _⟩ := he; cases q1
  | outgrown => exact he.elim
end
end Go.Proofs.YtkgmpkoamicheaaGreatDoor.M
