/- The quick way: what an operation looks at decides what it yields; regions in which the order cannot matter. No program in it. -/
import Derived.Test.YtkgmpkoamicheaaGreatDoorMy
namespace Go.Proofs.YtkgmpkoamicheaaGreatDoor.M
section
variable {T : Tab}
theorem ev_congr {e e' : AEnv} : ∀ {x : Operand}, (∀ t, x = .tmp t → e.get t = e'.get t) → ev e x = ev e' x
  | .tmp t, h => h t rfl
  | .const _, _ => rfl
  | .func _, _ => rfl
  | .global _, _ => rfl
theorem evs_congr {e e' : AEnv} : ∀ {l : List Operand}, (∀ t, .tmp t ∈ l → e.get t = e'.get t) → evs e l = evs e' l
  | [], _ => rfl
  | x :: l, h => by
    simp only [evs]
    rw [ev_congr (x := x) fun t ht => h t (by subst ht; exact List.mem_cons_self), evs_congr (l := l) fun t ht => h t (List.mem_cons_of_mem _ ht)]
theorem evParts_congr {e e' : AEnv} : ∀ {l : List (Nat × Operand)}, (∀ t, .tmp t ∈ l.map (·.2) → e.get t = e'.get t) → evParts e l = evParts e' l
  | [], _ => rfl
  | (i, x) :: l, h => by
    simp only [evParts]
    rw [ev_congr (x := x) fun t ht => h t (by subst ht; exact List.mem_cons_self), evParts_congr (l := l) fun t ht => h t (List.mem_cons_of_mem _ ht)]
theorem optEv_congr {e e' : AEnv} : ∀ {x : Option Operand}, (∀ t, x = some (.tmp t) → e.get t = e'.get t) → optEv e x = optEv e' x
  | none, _ => rfl
  | some x, h => by
    simp only [optEv]
    rw [ev_congr (x := x) fun t ht => h t (by rw [ht])]
theorem aop_congr {id : Nat} {e e' : AEnv} {H : AHeap} {op : Op} (h : ∀ t, Operand.tmp t ∈ op.operands.toList → e.get t = e'.get t) : aop T id e H op = aop T id e' H op := by
  have k : ∀ x, x ∈ op.operands.toList → ev e x = ev e' x := fun x hx => ev_congr fun t ht => h t (ht ▸ hx)
  cases op
  case move x => simp only [aop]; rw [k x (by simp [Op.operands])]
  case assign x => simp only [aop]; rw [k x (by simp [Op.operands])]
  case pick c a b => simp only [aop, xPick]; rw [k c (by simp [Op.operands]), k a (by simp [Op.operands]), k b (by simp [Op.operands])]
  case alloc => rfl
  case box el x => simp only [aop]; rw [k x (by simp [Op.operands])]
  case build t ps => simp only [aop]; rw [evParts_congr fun t ht => h t (by simpa [Op.operands] using ht)]
  case buildSlice t n ps => simp only [aop]; rw [evParts_congr fun t ht => h t (by simpa [Op.operands] using ht)]
  case insert t m a b => simp only [aop]; rw [k m (by simp [Op.operands]), k a (by simp [Op.operands]), k b (by simp [Op.operands])]
  case load t a => simp only [aop]; rw [k a (by simp [Op.operands])]
  case store t a v => simp only [aop]; rw [k a (by simp [Op.operands]), k v (by simp [Op.operands])]
  case nilCheck x => simp only [aop]; rw [k x (by simp [Op.operands])]
  case binOp op t x y u => simp only [aop]; rw [k x (by simp [Op.operands]), k y (by simp [Op.operands])]
  case unOp op t x => simp only [aop]; rw [k x (by simp [Op.operands])]
  case convert s d x => simp only [aop]; rw [k x (by simp [Op.operands])]
  case makeInterface t x => simp only [aop]; rw [k x (by simp [Op.operands])]
  case makeFunc fn fi ca => simp only [aop]; rw [evs_congr (l := fi.toList) fun t ht => h t (by simp [Op.operands]; left; simpa using ht), evs_congr (l := ca.toList) fun t ht => h t (by simp [Op.operands]; right; simpa using ht)]
  case makeMap t r =>
    cases r with
    | none => rfl
    | some x => cases x <;> first | rfl | (rename_i v; cases v <;> rfl)
  case makeSlice t a b => simp only [aop]; rw [k a (by simp [Op.operands]), k b (by simp [Op.operands])]
  case slice t x lo hi mx =>
    simp only [aop]
    rw [k x (by simp [Op.operands]), optEv_congr (x := lo) fun t ht => h t (by subst ht; simp [Op.operands]), optEv_congr (x := hi) fun t ht => h t (by subst ht; simp [Op.operands]), optEv_congr (x := mx) fun t ht => h t (by subst ht; simp [Op.operands])]
  case fieldAddr t x f => simp only [aop]; rw [k x (by simp [Op.operands])]
  case field t x f => simp only [aop]; rw [k x (by simp [Op.operands])]
  case indexAddr t x f => simp only [aop]; rw [k x (by simp [Op.operands]), k f (by simp [Op.operands])]
  case index t x f => simp only [aop]; rw [k x (by simp [Op.operands]), k f (by simp [Op.operands])]
  case lookup t x f ok => simp only [aop]; rw [k x (by simp [Op.operands]), k f (by simp [Op.operands])]
  case mapUpdate t m a b => simp only [aop]; rw [k m (by simp [Op.operands]), k a (by simp [Op.operands]), k b (by simp [Op.operands])]
  case range t x => simp only [aop]; rw [k x (by simp [Op.operands])]
  case next x b => cases b <;> (simp only [aop]; rw [k x (by simp [Op.operands])])
  case typeAssert x t u ok => simp only [aop]; rw [k x (by simp [Op.operands])]
  case extract x i => simp only [aop]; rw [k x (by simp [Op.operands])]
  case panic x => simp only [aop]; rw [k x (by simp [Op.operands])]
  case call c =>
    have h1 : evs e c.args.toList = evs e' c.args.toList := evs_congr fun t ht => h t (by simp [Op.operands, Call.operands]; right; simpa using ht)
    simp only [aop, xCalls]; rw [h1]
    cases evs e' c.args.toList with
    | none => rfl
    | some args =>
      simp only
      split
      · rename_i f hf; rw [k f (by simp [Op.operands, Call.operands, hf])]
      · rfl
      · rfl
  case defer c =>
    have h1 : evs e c.args.toList = evs e' c.args.toList := evs_congr fun t ht => h t (by simp [Op.operands, Call.operands]; right; simpa using ht)
    simp only [aop, xDefer]; rw [h1]
    cases evs e' c.args.toList with
    | none => rfl
    | some args =>
      simp only
      split
      · rename_i f hf; rw [k f (by simp [Op.operands, Call.operands, hf])]
      · rfl
  all_goals rfl
theorem wants_congr {ops : List Oper} {e e' : AEnv} {o : Oper} (h : ∀ t ∈ looks ops o, e.get t = e'.get t) : wants ops e o = wants ops e' o := by
  unfold wants
  unfold looks at h
  cases hg : o.guard with
  | none => rfl
  | some g =>
    obtain ⟨j, w⟩ := g
    rw [hg] at h
    simp only at h ⊢
    cases hp : ops[j]? with
    | none => rfl
    | some p =>
      rw [hp] at h
      simp only at h ⊢
      cases hd : p.dst with
      | none => rfl
      | some d =>
        rw [hd] at h
        simp only at h ⊢
        rw [h d List.mem_cons_self]
theorem looks_op {ops : List Oper} {o : Oper} {t : Tmp} (h : Operand.tmp t ∈ o.op.operands.toList) : t ∈ looks ops o := by
  have h1 : t ∈ o.op.operands.toList.filterMap (fun | .tmp t => some t | _ => none) := List.mem_filterMap.2 ⟨_, h, rfl⟩
  unfold looks
  simp only
  split
  · exact h1
  · split
    · split
      · exact List.mem_cons_of_mem _ h1
      · exact h1
    · exact h1
theorem putT_inv {nt : Nat} {e e1 : AEnv} {dst : Option Tmp} {v : Value} (h : putT nt e dst v = some e1) (e' : AEnv) : (∀ t, e1.get t = if dst = some t then e1.get t else e.get t) ∧ ∃ e1', putT nt e' dst v = some e1' ∧ ∀ t, e1'.get t = if dst = some t then e1.get t else e'.get t := by
  unfold putT at h ⊢
  cases dst with
  | none =>
    obtain rfl := Option.some.inj h
    exact ⟨fun t => by simp, e', rfl, fun t => by simp⟩
  | some d =>
    simp only at h ⊢
    split at h
    · rename_i hd
      obtain rfl := Option.some.inj h
      refine ⟨fun t => ?_, e'.set d v, by rw [if_pos hd], fun t => ?_⟩
      · rw [Tr.get_set]
        by_cases ht : t = d
        · subst ht; simp
        · rw [if_neg ht, if_neg (by simp; exact fun q => ht q.symm)]
      · rw [Tr.get_set, Tr.get_set]
        by_cases ht : t = d
        · subst ht; simp
        · rw [if_neg ht, if_neg (by simp; exact fun q => ht q.symm)]
    · cases h
theorem stPut_congr {nt : Nat} {e e1 : AEnv} {dst : Option Tmp} {v : Value} {H H1 : AHeap} {ds ds1 : List ADef} (h : stPut nt e dst v H ds = some (none, ⟨e1, H1, ds1⟩)) (e' : AEnv) :
    (∀ t, e1.get t = if dst = some t then e1.get t else e.get t) ∧ ∃ e1', stPut nt e' dst v H ds = some (none, ⟨e1', H1, ds1⟩) ∧ ∀ t, e1'.get t = if dst = some t then e1.get t else e'.get t := by
  unfold stPut at h
  split at h
  · rename_i e2 h2
    obtain ⟨rfl, rfl, rfl⟩ := St.mk.inj (Prod.mk.inj (Option.some.inj h)).2
    obtain ⟨k1, e1', k2, k3⟩ := putT_inv h2 e'
    exact ⟨k1, e1', by unfold stPut; rw [k2], k3⟩
  · cases h
theorem opStep_congr {nt : Nat} {C : CallF} {ops : List Oper} {st i : Nat} {o : Oper} {e e' e1 : AEnv} {H H1 : AHeap} (hl : ∀ t ∈ looks ops o, e.get t = e'.get t) (h : opStep T nt C ops st i o ⟨e, H, []⟩ = some (none, ⟨e1, H1, []⟩)) :
    (∀ t, e1.get t = if o.dst = some t then e1.get t else e.get t) ∧ ∃ e1', opStep T nt C ops st i o ⟨e', H, []⟩ = some (none, ⟨e1', H1, []⟩) ∧ ∀ t, e1'.get t = if o.dst = some t then e1.get t else e'.get t := by
  have ha : ∀ H, aop T (idOf st i) e H o.op = aop T (idOf st i) e' H o.op := fun H => aop_congr fun t ht => hl t (looks_op ht)
  unfold opStep at h ⊢
  rw [wants_congr hl] at h
  simp only [ha] at h
  dsimp only
  split at h
  · cases h
  rename_i hi
  rw [if_neg hi]
  split at h
  · cases h
  · rename_i hw
    exact stPut_congr h e'
  · rename_i hw
    split at h
    · cases h
    · rename_i v H2 ho
      exact stPut_congr h e'
    · rename_i H2 ho
      exact stPut_congr h e'
    · rename_i d H2 ho
      exact stPut_congr h e'
    · cases h
    · rename_i f args H2 ho
      split at h
      · cases h
      · rename_i v H3 hc
        exact stPut_congr h e'
      · cases h
theorem opStepL_congr {nt : Nat} {C : CallF} {ops : List Oper} {st i : Nat} {o : Oper} {e e' e1 : AEnv} {H H1 : AHeap} (hl : ∀ t ∈ looks ops o, e.get t = e'.get t) (h : opStepL T nt C ops st i o ⟨e, H, []⟩ = some (none, ⟨e1, H1, []⟩)) :
    (∀ t, e1.get t = if o.dst = some t then e1.get t else e.get t) ∧ ∃ e1', opStepL T nt C ops st i o ⟨e', H, []⟩ = some (none, ⟨e1', H1, []⟩) ∧ ∀ t, e1'.get t = if o.dst = some t then e1.get t else e'.get t := by
  cases hal : isAlloc o.op
  · rw [opStepL_of hal] at h ⊢
    cases hf : isFloat T o.op
    · rw [hf] at h; exact opStep_congr hl h
    · rw [hf] at h; exact opStep_congr hl h
  · cases ho : o.op <;> rw [ho] at hal <;> first | cases hal | skip
    rename_i el
    unfold opStepL at h ⊢
    simp only [ho] at h ⊢
    split at h
    · cases h
    rename_i hi
    rw [if_neg hi]
    split at h
    · rename_i B hg hz
      exact stPut_congr h e'
    · cases h
theorem only_has {env : AEnv} : ∀ {l : List Tmp} {t : Nat} {v : Value}, t ∈ l → env.get t = some v → (only env l).get t = some v
  | u :: l, t, v, ht, hv => by
    simp only [only]
    cases hu : env.get u with
    | none =>
      simp only
      cases ht with
      | head => rw [hv] at hu; cases hu
      | tail _ ht => exact only_has ht hv
    | some x =>
      simp only
      rw [Tr.get_set]
      by_cases e : t = u
      · subst e; rw [hv] at hu; rw [if_pos rfl, hu]
      · rw [if_neg e]
        cases ht with
        | head => exact absurd rfl e
        | tail _ ht => exact only_has ht hv
/-- as in passAny_ok -/
theorem passE_ok {C : CallF} {nt : Nat} {L : List Oper} {stamp : Nat} {env0 : AEnv} {H0 : AHeap} : ∀ (l : List Oper) (pre : List Rec) {env env' : AEnv} {H H' : AHeap}, passE T nt C L stamp pre.length l env H = some (env', H') →
    L.drop pre.length = l → (∀ t, env.get t = wr env0 pre t) → H = hp H0 pre →
    ∃ rs : List Rec, rs.length = l.length ∧ (∀ x r y, rs = x ++ r :: y → Way T nt C L stamp env0 H0 (pre ++ x) r) ∧ (∀ t, env'.get t = wr env0 (pre ++ rs) t) ∧ H' = hp H0 (pre ++ rs)
  | [], pre, env, env', H, H', h, _, he, hH => by
    simp only [passE, Option.some.injEq, Prod.mk.injEq] at h
    obtain ⟨rfl, rfl⟩ := h
    exact ⟨[], rfl, fun x r y e => by simp at e, by simpa using he, by simpa using hH⟩
  | o :: l, pre, env, env', H, H', h, hl, he, hH => by
    simp only [passE] at h
    split at h
    case h_2 => cases h
    rename_i e1 H1 hs
    have hi : L[pre.length]? = some o := by
      have : (L.drop pre.length)[0]? = some o := by rw [hl]; rfl
      simpa using this
    have hon : ∀ t ∈ looks L o, env.get t = (only env (looks L o)).get t := fun t ht => by
      cases hv : env.get t with
      | none =>
        cases hu : (only env (looks L o)).get t with
        | none => rfl
        | some u => have := (only_get hu).2; rw [hv] at this; cases this
      | some v => exact (only_has ht hv).symm
    obtain ⟨k1, e2, k2, k3⟩ := opStepL_congr hon hs
    let r0 : Rec := ⟨pre.length, o, only env (looks L o), ⟨e2, H1, []⟩⟩
    have hd : ∀ t, o.dst = some t → e2.get t = e1.get t := fun t ht => by rw [k3 t, if_pos ht]
    obtain ⟨rs, j1, j2, j3, j4⟩ := passE_ok (env0 := env0) (H0 := H0) l (pre ++ [r0]) (env := e1) (H := H1) (env' := env') (H' := H') (by simpa using h)
      (by rw [List.length_append, ← List.drop_drop, hl]; rfl)
      (fun t => by
        rw [wr_snoc]
        show e1.get t = if o.dst = some t then e2.get t else wr env0 pre t
        by_cases ht : o.dst = some t
        · rw [if_pos ht, hd t ht]
        · rw [if_neg ht, k1 t, if_neg ht, he]) (by simp [hp, r0])
    refine ⟨r0 :: rs, by simp [j1], ?_, ?_, ?_⟩
    · intro x r y e
      cases x with
      | nil =>
        obtain ⟨rfl, rfl⟩ := List.cons.inj e
        rw [List.append_nil]
        refine ⟨rfl, hi, ?_, fun t v ht => ?_⟩
        · rw [← hH]; exact k2
        · obtain ⟨h1, h2⟩ := only_get ht
          exact ⟨h1, by rw [← he]; exact h2⟩
      | cons z x =>
        obtain ⟨hz, e2⟩ := List.cons.inj (e.trans (List.cons_append ..))
        subst hz
        have := j2 x r y e2
        rwa [List.append_assoc] at this
    · intro t; rw [j3 t, List.append_assoc]; rfl
    · rw [j4, List.append_assoc]; rfl
theorem noMem_float {op : Op} (h : noMem T op = true) (ha : isAlloc op = false) : isFloat T op = true := by
  cases op <;> first | rfl | (cases ha; done) | (cases h; done) | skip
  case convert s d x =>
    unfold noMem at h
    unfold isFloat
    simp only at h ⊢
    split at h
    · rename_i r hr
      split at h
      · rename_i k hk; simp only [hk]
      · cases h
    · cases h
  case call c =>
    unfold noMem at h
    unfold isFloat
    simp only at h ⊢
    split at h <;> first | (rename_i hc; rw [hc]; done) | cases h
theorem aop_noMem {id : Nat} {env : AEnv} {H H1 : AHeap} {op : Op} {out : Out} (h : noMem T op = true) (ha : isAlloc op = false) (hr : aop T id env H op = some (out, H1)) (H' : AHeap) : aop T id env H' op = some (out, H') := by
  have vl : ∀ {x : Option Value} {out : Out} {H H1 H' : AHeap}, val H x = some (out, H1) → val H' x = some (out, H') := fun {x out H H1 H'} h => by
    unfold val at h ⊢
    split at h
    · obtain ⟨rfl, rfl⟩ := Prod.mk.inj (Option.some.inj h); rfl
    · cases h
  cases op <;> first | (cases ha; done) | (cases h; done) | exact vl hr | skip
  case convert s d x =>
    unfold noMem at h
    simp only at h
    split at h
    case h_2 => cases h
    rename_i r hd
    split at h
    case h_2 => cases h
    rename_i k hk
    simp only [aop] at hr ⊢
    cases hx : ev env x with
    | none => rw [hx] at hr; cases hr
    | some v =>
      rw [hx] at hr
      simp only [bind1] at hr ⊢
      unfold xConvert at hr ⊢
      rw [hd] at hr ⊢
      split at hr
      · rename_i rs rd h1 h2
        obtain rfl := Option.some.inj h2
        simp only [hk] at hr ⊢
        split at hr <;> first | (cases hr; done) | exact vl hr | contradiction
      · cases hr
  case slice t x lo hi mx =>
    unfold noMem at h
    simp only at h
    split at h
    case h_2 => cases h
    rename_i r hd
    split at h
    case h_2 => cases h
    rename_i hk
    simp only [aop] at hr ⊢
    have : xSlice T H t (ev env x) (optEv env lo) (optEv env hi) (optEv env mx) = xSlice T H' t (ev env x) (optEv env lo) (optEv env hi) (optEv env mx) := by
      unfold xSlice
      split
      · unfold aslice
        rw [hd]
        simp only [hk]
        split
        · rfl
        · split <;> first | rfl | contradiction
      · rfl
    rw [this] at hr
    exact vl hr
  case call c =>
    unfold noMem at h
    simp only at h
    simp only [aop, xCalls] at hr ⊢
    cases hx : evs env c.args.toList with
    | none => rw [hx] at hr; cases hr
    | some args =>
      rw [hx] at hr
      simp only at hr ⊢
      split at h
      · rename_i hc; rw [hc] at hr ⊢; exact vl hr
      · rename_i hc; rw [hc] at hr ⊢; exact vl hr
      · rename_i hc; rw [hc] at hr ⊢; exact vl hr
      · rename_i hc
        rw [hc] at hr ⊢
        simp only [xBuiltin] at hr ⊢
        split at h
        case h_2 => cases h
        rename_i t l ht
        rw [ht] at hr ⊢
        split at h
        case h_2 => cases h
        rename_i r hd
        split at h
        · cases h
        rename_i hm
        split at hr
        · rename_i t1 l1 x1 l2 h1
          obtain ⟨rfl, rfl⟩ := List.cons.inj h1
          have : xLen T H t x1 = xLen T H' t x1 := by
            unfold xLen
            rw [hd]
            simp only
            split <;> first | rfl | (rename_i k v mb hk; exact absurd hk (hm k v))
          rw [this] at hr
          exact vl hr
        · cases hr
      · cases h
theorem opStepL_noMem {nt : Nat} {C : CallF} {ops : List Oper} {st i : Nat} {o : Oper} {e e1 : AEnv} {H H1 : AHeap} (hn : noMem T o.op = true) (h : opStepL T nt C ops st i o ⟨e, H, []⟩ = some (none, ⟨e1, H1, []⟩)) (H' : AHeap) :
    opStepL T nt C ops st i o ⟨e, H', []⟩ = some (none, ⟨e1, H', []⟩) := by
  have sp : ∀ {dst : Option Tmp} {v : Value} {H H1 : AHeap}, stPut nt e dst v H [] = some (none, ⟨e1, H1, []⟩) → stPut nt e dst v H' [] = some (none, ⟨e1, H', []⟩) := fun {dst v H H1} h => by
    unfold stPut at h ⊢
    split at h
    · obtain ⟨rfl, _, _⟩ := St.mk.inj (Prod.mk.inj (Option.some.inj h)).2
      rfl
    · cases h
  cases hal : isAlloc o.op
  · rw [opStepL_of hal, noMem_float hn hal] at h ⊢
    simp only at h ⊢
    unfold opStep at h ⊢
    dsimp only at h ⊢
    split at h
    · cases h
    rename_i hi
    rw [if_neg hi]
    split at h
    · cases h
    · rename_i hw
      exact sp h
    · rename_i hw
      obtain ⟨out, H2, ho⟩ : ∃ out H2, aop T (idOf st i) e H o.op = some (out, H2) := by
        cases hq : aop T (idOf st i) e H o.op with
        | none => rw [hq] at h; cases h
        | some q => exact ⟨q.1, q.2, rfl⟩
      obtain ⟨v, rfl, rfl⟩ := aop_float (noMem_float hn hal) ho
      rw [ho] at h
      rw [aop_noMem hn hal ho H']
      exact sp h
  · cases ho : o.op <;> rw [ho] at hal <;> first | cases hal | skip
    rename_i el
    unfold opStepL at h ⊢
    simp only [ho] at h ⊢
    split at h
    · cases h
    rename_i hi
    rw [if_neg hi]
    split at h
    · exact sp h
    · cases h
theorem easyAll_mem {L : List Oper} {t : Tr (List Nat)} : ∀ {l : List Oper} {i : Nat}, easyAll T L t i l = true → ∀ k o, l[k]? = some o → isFl T o.op = true → noMem T o.op = true ∨ ordAll T t (i + k) 0 L = true
  | [], _, _, k, o, ho, _ => by simp at ho
  | q :: l, i, h, k, o, ho, hf => by
    simp only [easyAll, Bool.and_eq_true, Bool.or_eq_true] at h
    cases k with
    | zero =>
      simp at ho; subst ho
      rcases h.1 with (h1 | h1) | h1
      · rw [hf] at h1; cases h1
      · exact .inl h1
      · exact .inr h1
    | succ k =>
      have := easyAll_mem h.2 k o (by simpa using ho) hf
      rwa [show i + 1 + k = i + (k + 1) by omega] at this
theorem ordAll_mem {t : Tr (List Nat)} {i : Nat} : ∀ {l : List Oper} {j : Nat}, ordAll T t i j l = true → ∀ k q, l[k]? = some q → isFl T q.op = false → (j + k < i → isAhead t (j + k) i = true) ∧ (¬ j + k < i → isAhead t i (j + k) = true)
  | [], _, _, k, q, hq, _ => by simp at hq
  | p :: l, j, h, k, q, hq, hf => by
    simp only [ordAll, Bool.and_eq_true, Bool.or_eq_true] at h
    cases k with
    | zero =>
      simp at hq; subst hq
      rw [Nat.add_zero]
      rcases h.1 with h1 | h1
      · rw [hf] at h1; cases h1
      · split at h1
        · rename_i hb
          exact ⟨fun _ => h1, fun hn => absurd (Nat.le_of_ble_eq_true hb) hn⟩
        · rename_i hb
          exact ⟨fun hn => absurd (Nat.ble_eq_true_of_le hn) hb, fun _ => h1⟩
    | succ k =>
      have := ordAll_mem h.2 k q (by simpa using hq) hf
      rwa [show j + 1 + k = j + (k + 1) by omega] at this
theorem again_easy {C : CallF} {nt : Nat} {L : List Oper} {st : Nat} {env0 : AEnv} {H0 : AHeap} {rs : List Rec} (h : Seen T nt C L st env0 H0 rs) (he : easyAll T L (closeB 0 L .emp) 0 L = true) : Again T nt C L st H0 rs := by
  intro D x y r hDn e hr hn hf
  have hw := h.way x r y e
  have ho := h.at e
  rcases easyAll_mem he r.i r.o ho hf with h1 | h1
  · exact ⟨_, _, opStepL_noMem h1 hw.step _, fun d v _ hv => hv⟩
  · rw [Nat.zero_add] at h1
    have hE : (rs.filter (eff T)).filter (fun q => D q.i) = x.filter (eff T) := by
      have hre : eff T r = false := by simp [eff, hf]
      rw [e, List.filter_append, List.filter_append, List.filter_cons, if_neg (by simp [hre])]
      have g1 : (y.filter (eff T)).filter (fun q => D q.i) = [] := by
        rw [List.filter_eq_nil_iff]
        intro q hq hd
        obtain ⟨hq1, hq2⟩ := List.mem_filter.1 hq
        obtain ⟨hlt, hoq⟩ := h.right e hq1
        have hq3 : isFl T q.o.op = false := by simpa [eff] using hq2
        have := (ordAll_mem h1 q.i q.o hoq hq3).2 (by omega)
        rw [Nat.zero_add] at this
        have := ah_done hDn this hd
        rw [hn] at this; cases this
      have g2 : (x.filter (eff T)).filter (fun q => D q.i) = x.filter (eff T) := by
        rw [List.filter_eq_self]
        intro q hq
        obtain ⟨hq1, hq2⟩ := List.mem_filter.1 hq
        obtain ⟨hlt, hoq⟩ := h.left e hq1
        have hq3 : isFl T q.o.op = false := by simpa [eff] using hq2
        have := (ordAll_mem h1 q.i q.o hoq hq3).1 (by omega)
        rw [Nat.zero_add] at this
        exact ah_in hDn this hr
      rw [g1, g2, List.append_nil]
    have hH : hD T nt C L st H0 rs D = hp H0 x := by
      unfold hD
      rw [hE]
      exact fold_eff h _ x (r :: y) rfl e
    rw [hH]
    exact ⟨_, _, hw.step, fun d v _ hv => hv⟩
end
end Go.Proofs.YtkgmpkoamicheaaGreatDoor.M
