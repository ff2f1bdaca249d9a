/- The quick way's answers are the program's: regions in any order, what is to be known ahead. No program in it. -/
import Derived.Test.YtkgmpkoamicheaaGreatDoorMw
import Derived.Orders
namespace Go.Proofs.YtkgmpkoamicheaaGreatDoor.M
section
variable {P : Program} {T : Tab}

/-! equality -/
theorem listEq_eq : ∀ {x y : List UInt8}, listEq x y = true → x = y
  | [], [], _ => rfl
  | [], _ :: _, h => by cases h
  | _ :: _, [], h => by cases h
  | a :: x, b :: y, h => by
    simp only [listEq, Bool.and_eq_true, Tr.beq_iff] at h
    rw [UInt8.toNat_inj.1 h.1, listEq_eq h.2]
theorem vEq1_eq {a b : Value} (h : vEq1 a b = true) : a = b := by
  unfold vEq1 at h
  split at h
  · rw [eq_of_beq h]
  · simp only [Bool.and_eq_true, decide_eq_true_eq] at h; rw [h.1, h.2]
  · rename_i x y
    have := listEq_eq h
    obtain ⟨⟨x⟩⟩ := x
    obtain ⟨⟨y⟩⟩ := y
    cases this; rfl
  · rfl
  · simp only [Bool.and_eq_true, Tr.beq_iff] at h; rw [h.1, h.2]
  · simp only [Bool.and_eq_true, Tr.beq_iff] at h; rw [h.1, h.2]
  · simp only [Bool.and_eq_true, Tr.beq_iff] at h; obtain ⟨⟨⟨rfl, rfl⟩, rfl⟩, rfl⟩ := h; rfl
  · rfl
  · simp only [Tr.beq_iff] at h; rw [h]
  · rfl
  · rfl
  · simp only [Bool.and_eq_true, Tr.beq_iff, List.isEmpty_iff, Array.toList_eq_nil_iff] at h
    obtain ⟨⟨⟨⟨rfl, rfl⟩, rfl⟩, rfl⟩, rfl⟩ := h; rfl
  · cases h
theorem vEqs_eq : ∀ {x y : List Value}, vEqs x y = true → x = y
  | [], [], _ => rfl
  | [], _ :: _, h => by cases h
  | _ :: _, [], h => by cases h
  | a :: x, b :: y, h => by
    simp only [vEqs, Bool.and_eq_true] at h
    rw [vEq1_eq h.1, vEqs_eq h.2]
theorem vEqA_eq {a b : Value} (h : vEqA a b = true) : a = b := by
  unfold vEqA at h
  split at h
  · rw [Array.toList_inj.1 (vEqs_eq h)]
  · simp only [Bool.and_eq_true, decide_eq_true_eq] at h; rw [h.1, vEq1_eq h.2]
  · exact vEq1_eq h
theorem vEqAs_eq : ∀ {x y : List Value}, vEqAs x y = true → x = y
  | [], [], _ => rfl
  | [], _ :: _, h => by cases h
  | _ :: _, [], h => by cases h
  | a :: x, b :: y, h => by
    simp only [vEqAs, Bool.and_eq_true] at h
    rw [vEqA_eq h.1, vEqAs_eq h.2]
theorem vEq2_eq {a b : Value} (h : vEq2 a b = true) : a = b := by
  unfold vEq2 at h
  split at h
  · rw [Array.toList_inj.1 (vEqs_eq h)]
  · rw [Array.toList_inj.1 (vEqAs_eq h)]
  · simp only [Bool.and_eq_true, decide_eq_true_eq] at h; rw [h.1, vEq1_eq h.2]
  · exact vEq1_eq h
theorem oEq_eq {a b : Option Value} (h : oEq a b = true) : ∃ v, a = some v ∧ b = some v := by
  unfold oEq at h
  split at h
  · exact ⟨_, rfl, by rw [vEq2_eq h]⟩
  · cases h

/-! what changes nothing -/
theorem val_float {H : AHeap} {x : Option Value} {out : Out} {H1 : AHeap} (h : val H x = some (out, H1)) : ∃ v, out = .val v ∧ H1 = H := by
  obtain ⟨v, _, h1, h2⟩ := val_inv h
  exact ⟨v, h1, h2⟩
theorem aop_float {id : Nat} {env : AEnv} {H H1 : AHeap} {op : Op} {out : Out} (hf : isFloat T op = true) (h : aop T id env H op = some (out, H1)) : ∃ v, out = .val v ∧ H1 = H := by
  cases op <;> simp only [isFloat, Bool.false_eq_true] at hf <;> simp only [aop] at h <;> first | exact val_float h | skip
  case convert s d x =>
    obtain ⟨p, hp, hv⟩ := bind1_inv h
    unfold xConvert at hv
    split at hv
    case h_2 => cases hv
    rename_i rs rd hs hd
    rw [hd] at hf
    simp only at hf
    split at hv
    · exact val_float hv
    · exact val_float hv
    · rename_i e1 e2 e; rw [e] at hf; cases hf
    · rename_i e; rw [e] at hf; cases hf
    · split at hv
      · split at hv
        · split at hv
          · split at hv
            · split at hv
              · exact val_float hv
              · cases hv
            · cases hv
          · cases hv
        · cases hv
      · cases hv
    · cases hv
  case call c =>
    unfold xCalls at h
    split at h
    · cases h
    · split at h
      · rename_i hc; rw [hc] at hf; cases hf
      · cases h
      · rename_i b hc
        rw [hc] at hf
        cases b <;> simp only [Bool.false_eq_true] at hf <;> simp only [xBuiltin] at h
        all_goals first
          | exact val_float h
          | (split at h
             · exact val_float h
             · cases h)
theorem opStep_float {C : CallF} {nt : Nat} {ops : List Oper} {stamp i : Nat} {o : Oper} {s s' : St} (hf : isFloat T o.op = true) (h : opStep T nt C ops stamp i o s = some (none, s')) : s'.H = s.H := by
  unfold opStep at h
  split at h
  · cases h
  split at h
  · cases h
  · obtain ⟨e, _, hr⟩ := stPut_inv h
    obtain ⟨_, rfl⟩ := Prod.mk.inj hr
    rfl
  · split at h
    · cases h
    · rename_i ha
      obtain ⟨_, _, rfl⟩ := aop_float hf ha
      obtain ⟨e, _, hr⟩ := stPut_inv h
      obtain ⟨_, rfl⟩ := Prod.mk.inj hr
      rfl
    · rename_i ha
      obtain ⟨_, e, _⟩ := aop_float hf ha
      cases e
    · rename_i ha
      obtain ⟨_, e, _⟩ := aop_float hf ha
      cases e
    · rename_i ha
      obtain ⟨_, e, _⟩ := aop_float hf ha
      cases e
    · rename_i ha
      obtain ⟨_, e, _⟩ := aop_float hf ha
      cases e

theorem isFl_alloc {op : Op} (h : isAlloc op = false) : isFl T op = isFloat T op := by cases op <;> first | rfl | cases h
theorem opStepL_of {C : CallF} {nt : Nat} {ops : List Oper} {stamp i : Nat} {o : Oper} {s : St} (h : isAlloc o.op = false) :
    opStepL T nt C ops stamp i o s = match isFloat T o.op with
      | true => opStep T nt C ops stamp i o s
      | false => opStep T nt C ops stamp i o ⟨s.env, matAt T ops stamp i o s.H, s.ds⟩ := by
  unfold opStepL
  split
  · rename_i e; rw [e] at h; cases h
  · rfl
theorem opStepL_float {C : CallF} {nt : Nat} {ops : List Oper} {stamp i : Nat} {o : Oper} {s s' : St} (hf : isFl T o.op = true) (h : opStepL T nt C ops stamp i o s = some (none, s')) : s'.H = s.H := by
  cases ha : isAlloc o.op
  · rw [isFl_alloc ha] at hf
    rw [opStepL_of ha, hf] at h
    exact opStep_float hf h
  · unfold opStepL at h
    split at h
    · split at h
      · cases h
      · split at h
        · obtain ⟨e, _, hr⟩ := stPut_inv h
          obtain ⟨_, rfl⟩ := Prod.mk.inj hr
          rfl
        · cases h
    · rename_i hn
      cases ho : o.op <;> rw [ho] at ha <;> first | exact (hn _ ho).elim | cases ha

/-! what comes ahead -/
theorem memN_addN {j x : Nat} {l : List Nat} (h : memN j (addN x l) = true) : j = x ∨ memN j l = true := by
  unfold addN at h
  split at h
  · exact .inr h
  · simp only [memN, Bool.or_eq_true, Tr.beq_iff] at h; exact h
theorem memN_addAll {j : Nat} : ∀ {m l : List Nat}, memN j (addAll m l) = true → memN j m = true ∨ memN j l = true
  | [], _, h => .inr h
  | x :: m, l, h => by
    rcases memN_addAll (m := m) h with h | h
    · exact .inl (by simp [memN, h])
    · rcases memN_addN h with h | h
      · exact .inl (by simp [memN, h])
      · exact .inr h
theorem memN_before {j : Nat} {t : Tr (List Nat)} : ∀ {m l : List Nat}, memN j (before t m l) = true → memN j l = true ∨ ∃ x ∈ m, j = x ∨ ∃ b, t.get x = some b ∧ memN j b = true
  | [], _, h => .inl h
  | x :: m, l, h => by
    rcases memN_before (m := m) h with h | ⟨y, hy, h⟩
    · split at h
      · rename_i k hk
        rcases memN_addAll h with h | h
        · exact .inr ⟨x, List.mem_cons_self, .inr ⟨k, hk, h⟩⟩
        · rcases memN_addN h with h | h
          · exact .inr ⟨x, List.mem_cons_self, .inl h⟩
          · exact .inl h
      · rcases memN_addN h with h | h
        · exact .inr ⟨x, List.mem_cons_self, .inl h⟩
        · exact .inl h
    · exact .inr ⟨y, List.mem_cons_of_mem _ hy, h⟩
/-- listed all that is to come ahead -/
def Closed (L : List Oper) (D : Nat → Prop) : Prop := ∀ k o, L[k]? = some o → D k → ∀ x ∈ direct o, D x
def AheadIn (L : List Oper) (t : Tr (List Nat)) : Prop := ∀ i b, t.get i = some b → ∀ j, memN j b = true → ∀ D, Closed L D → (∀ o, L[i]? = some o → ∀ x ∈ direct o, D x) → D j
theorem closeB_ok {L : List Oper} : ∀ (l : List Oper) (i : Nat) (t : Tr (List Nat)), L.drop i = l → AheadIn L t → (∀ k b, t.get k = some b → ∃ o, L[k]? = some o) → AheadIn L (closeB i l t)
  | [], _, _, _, h, _ => h
  | o :: l, i, t, hl, h, hk => by
    have hi : L[i]? = some o := by
      have : (L.drop i)[0]? = some o := by rw [hl]; rfl
      simpa using this
    refine closeB_ok l (i + 1) _ (by rw [← List.drop_drop, hl]; rfl) ?_ ?_
    · intro k b hb j hj D hD hdir
      rw [Tr.get_set] at hb
      by_cases hki : k = i
      · rw [if_pos hki] at hb
        obtain rfl := Option.some.inj hb
        subst hki
        rcases memN_before hj with h1 | ⟨x, hx, h1⟩
        · cases h1
        · have hDx := hdir o hi x hx
          rcases h1 with rfl | ⟨b, hb, h1⟩
          · exact hDx
          · exact h x b hb j h1 D hD (fun o' ho' => hD x o' ho' hDx)
      · rw [if_neg hki] at hb
        exact h k b hb j hj D hD hdir
    · intro k b hb
      rw [Tr.get_set] at hb
      by_cases hki : k = i
      · exact ⟨o, hki ▸ hi⟩
      · rw [if_neg hki] at hb; exact hk k b hb
theorem ltAll_mem {i : Nat} : ∀ {l : List Nat}, ltAll i l = true → ∀ x ∈ l, x < i
  | [], _, _, h => by cases h
  | j :: l, h, x, hx => by
    simp only [ltAll, Bool.and_eq_true, Nat.blt_eq] at h
    cases hx with
    | head => exact h.1
    | tail _ hx => exact ltAll_mem h.2 x hx
theorem aheadOk_mem {L : List Oper} {o : Oper} {b : List Nat} : ∀ {l : List Oper} {j : Nat}, aheadOk T L o b j l = true → ∀ k p, l[k]? = some p → memN (j + k) b = true ∨ clash T L p o = false
  | [], _, _, k, p, hp => by simp at hp
  | q :: l, j, h, k, p, hp => by
    simp only [aheadOk, Bool.and_eq_true, Bool.or_eq_true, Bool.not_eq_true'] at h
    cases k with
    | zero => simp at hp; subst hp; exact h.1
    | succ k =>
      have := aheadOk_mem h.2 k p (by simpa using hp)
      rw [show j + (k + 1) = j + 1 + k by omega]
      exact this
theorem fits_ok {L : List Oper} {t : Tr (List Nat)} : ∀ {l : List Oper} {i : Nat}, fits T L t i l = true → ∀ k o, l[k]? = some o → (∀ x ∈ direct o, x < i + k) ∧ ∃ b, t.get (i + k) = some b ∧ ∀ j p, j < i + k → L[j]? = some p → memN j b = true ∨ clash T L p o = false
  | [], _, _, k, o, ho => by simp at ho
  | q :: l, i, h, k, o, ho => by
    simp only [fits, Bool.and_eq_true] at h
    obtain ⟨⟨h1, h2⟩, h3⟩ := h
    cases k with
    | zero =>
      simp at ho; subst ho
      refine ⟨ltAll_mem h1, ?_⟩
      split at h2
      · rename_i b hb
        refine ⟨b, hb, fun j p hj hp => ?_⟩
        have := aheadOk_mem h2 j p (by rw [List.getElem?_take]; rw [if_pos (by omega)]; exact hp)
        simpa using this
      · cases h2
    | succ k =>
      have := fits_ok h3 k o (by simpa using ho)
      rw [show i + (k + 1) = i + 1 + k by omega]
      exact this

/-! the way in the text's order -/
theorem only_get {env : AEnv} : ∀ {l : List Tmp} {t : Nat} {v : Value}, (only env l).get t = some v → t ∈ l ∧ env.get t = some v
  | [], t, v, h => by rw [only, Tr.get_e] at h; cases h
  | x :: l, t, v, h => by
    simp only [only] at h
    split at h
    · rename_i u hu
      rw [Tr.get_set] at h
      by_cases hx : t = x
      · rw [if_pos hx] at h
        obtain rfl := Option.some.inj h
        subst hx
        exact ⟨List.mem_cons_self, hu⟩
      · rw [if_neg hx] at h
        obtain ⟨h1, h2⟩ := only_get h
        exact ⟨List.mem_cons_of_mem _ h1, h2⟩
    · obtain ⟨h1, h2⟩ := only_get h
      exact ⟨List.mem_cons_of_mem _ h1, h2⟩
/-- who wrote a variable last, among some -/
def dstIs (t : Tmp) (r : Rec) : Bool := r.o.dst == some t
noncomputable def wr (env0 : AEnv) (l : List Rec) (t : Tmp) : Option Value :=
  match (l.filter (dstIs t)).getLast? with
  | some r => r.s.env.get t
  | none => env0.get t
noncomputable def hp (H0 : AHeap) (l : List Rec) : AHeap :=
  match l.getLast? with
  | some r => r.s.H
  | none => H0
theorem wr_snoc (env0 : AEnv) (l : List Rec) (r : Rec) (t : Tmp) : wr env0 (l ++ [r]) t = if r.o.dst = some t then r.s.env.get t else wr env0 l t := by
  unfold wr
  rw [List.filter_append]
  by_cases h : r.o.dst = some t
  · have : [r].filter (dstIs t) = [r] := by simp [dstIs, h]
    rw [this, List.getLast?_concat, if_pos h]
  · have : [r].filter (dstIs t) = [] := by simp [dstIs, h]
    rw [this, List.append_nil, if_neg h]
theorem putBack_get {env env' e : AEnv} {dst : Option Tmp} (h : putBack env dst e = some env') (t : Tmp) : env'.get t = if dst = some t then e.get t else env.get t := by
  unfold putBack at h
  split at h
  · obtain rfl := Option.some.inj h
    simp
  · rename_i d
    split at h
    · rename_i v hv
      obtain rfl := Option.some.inj h
      rw [Tr.get_set]
      by_cases ht : t = d
      · subst ht; simp [hv]
      · rw [if_neg ht, if_neg (by simp; exact fun e => ht e.symm)]
    · cases h
/-- the way's steps, each with what is ahead of it -/
structure Way (T : Tab) (nt : Nat) (C : CallF) (L : List Oper) (stamp : Nat) (env0 : AEnv) (H0 : AHeap) (pre : List Rec) (r : Rec) : Prop where
  i : r.i = pre.length
  o : L[pre.length]? = some r.o
  step : opStepL T nt C L stamp r.i r.o ⟨r.e, hp H0 pre, []⟩ = some (none, ⟨r.s.env, r.s.H, []⟩)
  env : ∀ t v, r.e.get t = some v → t ∈ looks L r.o ∧ wr env0 pre t = some v
theorem passAny_ok {C : CallF} {nt : Nat} {L : List Oper} {stamp : Nat} {env0 : AEnv} {H0 : AHeap} : ∀ (l : List Oper) (pre : List Rec) {env env' : AEnv} {H H' : AHeap} {rs : List Rec}, passAny T nt C L stamp pre.length l env H = some (rs, env', H') →
    L.drop pre.length = l → (∀ t, env.get t = wr env0 pre t) → H = hp H0 pre →
    rs.length = l.length ∧ (∀ x r y, rs = x ++ r :: y → Way T nt C L stamp env0 H0 (pre ++ x) r) ∧ (∀ t, env'.get t = wr env0 (pre ++ rs) t) ∧ H' = hp H0 (pre ++ rs)
  | [], pre, env, env', H, H', rs, h, _, he, hH => by
    simp only [passAny, Option.some.injEq, Prod.mk.injEq] at h
    obtain ⟨rfl, rfl, rfl⟩ := h
    exact ⟨rfl, fun x r y e => by simp at e, by simpa using he, by simpa using hH⟩
  | o :: l, pre, env, env', H, H', rs, h, hl, he, hH => by
    simp only [passAny] at h
    split at h
    case h_2 => cases h
    rename_i e1 H1 hs
    split at h
    case h_2 => cases h
    rename_i env1 hb
    split at h
    case h_2 => cases h
    rename_i rs1 r1 hp'
    obtain ⟨rfl, rfl⟩ := Prod.mk.inj (Option.some.inj h)
    have hi : L[pre.length]? = some o := by
      have : (L.drop pre.length)[0]? = some o := by rw [hl]; rfl
      simpa using this
    let r0 : Rec := ⟨pre.length, o, only env (looks L o), ⟨e1, H1, []⟩⟩
    have := passAny_ok (env0 := env0) (H0 := H0) l (pre ++ [r0]) (env := env1) (H := H1) (rs := rs1) (env' := env') (H' := H') (by simpa using hp')
      (by rw [List.length_append, ← List.drop_drop, hl]; rfl)
      (fun t => by rw [putBack_get hb, wr_snoc, he]) (by simp [hp, r0])
    obtain ⟨k1, k2, k3, k4⟩ := this
    refine ⟨by simp [k1], ?_, ?_, ?_⟩
    · intro x r y e
      cases x with
      | nil =>
        obtain ⟨rfl, rfl⟩ := List.cons.inj e
        rw [List.append_nil]
        refine ⟨rfl, hi, ?_, fun t v ht => ?_⟩
        · rw [← hH]; exact hs
        · obtain ⟨h1, h2⟩ := only_get ht
          exact ⟨h1, by rw [← he]; exact h2⟩
      | cons z x =>
        obtain ⟨hz, e2⟩ := List.cons.inj (e.trans (List.cons_append ..))
        subst hz
        have := k2 x r y e2
        rwa [List.append_assoc] at this
    · intro t; rw [k3 t, List.append_assoc]; rfl
    · rw [k4, List.append_assoc]; rfl
theorem strictTo_mem {t : Tr (List Nat)} {i : Nat} : ∀ {l : List Oper} {j : Nat}, strictTo T t i j l = true → ∀ k q, l[k]? = some q → isFl T q.op = false → isAhead t (j + k) i = true
  | [], _, _, k, q, hq, _ => by simp at hq
  | p :: l, j, h, k, q, hq, hf => by
    simp only [strictTo, Bool.and_eq_true, Bool.or_eq_true] at h
    cases k with
    | zero =>
      simp at hq; subst hq
      rcases h.1 with h1 | h1
      · rw [hf] at h1; cases h1
      · exact h1
    | succ k =>
      have := strictTo_mem h.2 k q (by simpa using hq) hf
      rwa [show j + 1 + k = j + (k + 1) by omega] at this
theorem strictAll_mem {L : List Oper} {t : Tr (List Nat)} : ∀ {l : List Oper} {i : Nat}, strictAll T L t i l = true → ∀ k o, l[k]? = some o → isFl T o.op = false → ∀ j q, j < i + k → L[j]? = some q → isFl T q.op = false → isAhead t j (i + k) = true
  | [], _, _, k, o, ho, _, _, _, _, _, _ => by simp at ho
  | p :: l, i, h, k, o, ho, hf, j, q, hj, hq, hfq => by
    simp only [strictAll, Bool.and_eq_true, Bool.or_eq_true] at h
    cases k with
    | zero =>
      simp at ho; subst ho
      rcases h.1 with h1 | h1
      · rw [hf] at h1; cases h1
      · have := strictTo_mem h1 j q (by rw [List.getElem?_take, if_pos (show j < i by omega)]; exact hq) hfq
        rwa [Nat.zero_add] at this
    | succ k =>
      have := strictAll_mem h.2 k o (by simpa using ho) hf j q (by omega) hq hfq
      rwa [show i + 1 + k = i + (k + 1) by omega] at this
/-- one that lays new memory lays it whatever the memory is -/
noncomputable def putO (H : AHeap) (id : Nat) : Option ABlk → AHeap
  | none => H
  | some B => H.put id (some B)
theorem AHeap.put_comm (H : AHeap) {a b : Nat} (hn : a ≠ b) (x y : Option ABlk) : (H.put a x).put b y = (H.put b y).put a x := by
  show AHeap.mk _ _ = AHeap.mk _ _
  exact congrArg (AHeap.mk H.next) (Tr.put_comm H.blk hn x y)
theorem putO_comm (H : AHeap) {a b : Nat} (hn : a ≠ b) (x y : Option ABlk) : putO (putO H a x) b y = putO (putO H b y) a x := by
  cases x <;> cases y <;> first | rfl | exact AHeap.put_comm H hn _ _
theorem aop_mk {id : Nat} {env : AEnv} {H H1 : AHeap} {op : Op} {out : Out} (h : mkOp op = true) (hr : aop T id env H op = some (out, H1)) : ∃ v B, out = .val v ∧ ∀ H', aop T id env H' op = some (.val v, H'.put id (some B)) := by
  have hp : ∀ {e : TypeId} {l : List Value} {H H1 : AHeap}, anew e l id H = some H1 → ∃ B, ∀ H', anew e l id H' = some (H'.put id (some B)) := fun {e l H H1} h => by
    unfold anew at h
    split at h
    · rename_i h1; exact ⟨_, fun H' => by unfold anew; rw [if_pos h1]⟩
    · cases h
  cases op <;> first | (cases h; done) | skip
  case box e x =>
    simp only [aop] at hr ⊢
    cases hx : ev env x with
    | none => rw [hx] at hr; cases hr
    | some v =>
      rw [hx] at hr
      simp only [xBox, ptrTo] at hr ⊢
      split at hr
      · rename_i H2 h2
        obtain ⟨B, hB⟩ := hp h2
        obtain ⟨rfl, rfl⟩ := Prod.mk.inj (Option.some.inj hr)
        exact ⟨_, B, rfl, fun H' => by rw [hB H']⟩
      · cases hr
  case buildSlice t n ps =>
    simp only [aop] at hr ⊢
    cases hx : evParts env ps.toList with
    | none => rw [hx] at hr; cases hr
    | some vs =>
      rw [hx] at hr
      simp only [bindP, xBuildSlice] at hr ⊢
      split at hr
      · cases hr
      rename_i r _
      split at hr <;> first | (cases hr; done) | skip
      rename_i e _
      split at hr <;> first | (cases hr; done) | skip
      rename_i re _
      split at hr <;> first | (cases hr; done) | skip
      rename_i z _
      split at hr <;> first | (cases hr; done) | skip
      rename_i hg
      split at hr <;> first | (cases hr; done) | skip
      rename_i l _
      unfold sliceTo at hr
      split at hr
      · rename_i H2 h2
        obtain ⟨B, hB⟩ := hp h2
        obtain ⟨rfl, rfl⟩ := Prod.mk.inj (Option.some.inj hr)
        refine ⟨_, B, rfl, fun H' => ?_⟩
        simp only [hg, if_true, sliceTo, hB H']
      · cases hr
  case makeMap t r =>
    have hm : ∀ {H H1 : AHeap} {out : Out}, xMakeMap T id H t = some (out, H1) → ∃ v B, out = .val v ∧ ∀ H', xMakeMap T id H' t = some (.val v, H'.put id (some B)) := fun {H H1 out} hr => by
      unfold xMakeMap at hr
      split at hr <;> first | (cases hr; done) | skip
      rename_i r h1
      split at hr <;> first | (cases hr; done) | skip
      rename_i h2
      obtain ⟨rfl, rfl⟩ := Prod.mk.inj (Option.some.inj hr)
      exact ⟨_, .map [] [] 0, rfl, fun H' => by unfold xMakeMap; simp only [h1, h2]⟩
    cases r with
    | none => exact hm hr
    | some x => cases x <;> first | (cases hr; done) | (rename_i v; cases v <;> first | (cases hr; done) | exact hm hr)
  case makeSlice t l c =>
    simp only [aop] at hr ⊢
    unfold xMakeSlice at hr
    split at hr <;> first | (cases hr; done) | skip
    rename_i k n k' mm h1 h2
    split at hr <;> first | (cases hr; done) | skip
    rename_i r h3
    split at hr <;> first | (cases hr; done) | skip
    rename_i e h4
    split at hr <;> first | (cases hr; done) | skip
    rename_i re h5
    split at hr <;> first | (cases hr; done) | skip
    rename_i z h6
    split at hr <;> first | (cases hr; done) | skip
    rename_i hg
    obtain ⟨rfl, rfl⟩ := Prod.mk.inj (Option.some.inj hr)
    refine ⟨_, .cells (mm.toNat * re.size) (zeroTree mm.toNat (cellsL z)) e none, rfl, fun H' => ?_⟩
    unfold xMakeSlice
    simp only [h1, h2, h3, h4, h5, h6, hg, if_true]
theorem noLook_mem {L : List Oper} {o : Oper} : ∀ {l : List Oper}, noLook L o l = true → ∀ p ∈ l, ∀ e d, p.op = .alloc e → p.dst = some d → memN d (looks L o) = false
  | [], _, p, hp, _, _, _, _ => by cases hp
  | q :: l, h, p, hp, e, d, ho, hd => by
    simp only [noLook, Bool.and_eq_true] at h
    cases hp with
    | head =>
      have h1 := h.1
      simp only [ho, hd] at h1
      simpa using h1
    | tail _ hp => exact noLook_mem h.2 p hp e d ho hd
theorem mater_nil {stamp : Nat} {want : Tmp → Bool} : ∀ {l : List Oper} {j : Nat} {H : AHeap}, (∀ p ∈ l, ∀ e d, p.op = .alloc e → p.dst = some d → want d = false) → mater T stamp want j l H = H
  | [], _, _, _ => rfl
  | p :: l, j, H, h => by
    simp only [mater]
    split
    · rename_i e d ho hd
      rw [h p List.mem_cons_self e d ho hd]
      exact mater_nil fun q hq => h q (List.mem_cons_of_mem _ hq)
    · exact mater_nil fun q hq => h q (List.mem_cons_of_mem _ hq)
theorem matAt_mkr {L : List Oper} {stamp i : Nat} {o : Oper} {H : AHeap} (h : mkr L o = true) : matAt T L stamp i o H = H := by
  unfold mkr at h
  simp only [Bool.and_eq_true] at h
  unfold matAt
  exact mater_nil fun p hp e d ho hd => by rw [noLook_mem h.2 p (List.mem_of_mem_take hp) e d ho hd]; rfl
theorem opStepL_mk {nt : Nat} {C : CallF} {L : List Oper} {st i : Nat} {o : Oper} {e e1 : AEnv} {H H1 : AHeap} (hn : mkr L o = true) (h : opStepL T nt C L st i o ⟨e, H, []⟩ = some (none, ⟨e1, H1, []⟩)) :
    ∃ u, ∀ H', opStepL T nt C L st i o ⟨e, H', []⟩ = some (none, ⟨e1, putO H' (idOf st i) u, []⟩) := by
  have hn' := hn
  unfold mkr at hn
  simp only [Bool.and_eq_true] at hn
  have hal : isAlloc o.op = false := by cases ho : o.op <;> rw [ho] at hn <;> first | rfl | (have := hn.1; cases this)
  have hfl : isFloat T o.op = false := by cases ho : o.op <;> rw [ho] at hn <;> first | rfl | (have := hn.1; cases this)
  have hst : ∀ H', opStepL T nt C L st i o ⟨e, H', []⟩ = opStep T nt C L st i o ⟨e, H', []⟩ := fun H' => by
    rw [opStepL_of hal, hfl]
    show opStep T nt C L st i o ⟨e, matAt T L st i o H', []⟩ = _
    rw [matAt_mkr hn']
  rw [hst] at h
  have sp : ∀ {dst : Option Tmp} {v : Value} {H H1 : AHeap}, stPut nt e dst v H [] = some (none, ⟨e1, H1, []⟩) → ∀ H', stPut nt e dst v H' [] = some (none, ⟨e1, H', []⟩) := fun {dst v H H1} h H' => by
    unfold stPut at h ⊢
    split at h
    · obtain ⟨rfl, _, _⟩ := St.mk.inj (Prod.mk.inj (Option.some.inj h)).2
      rfl
    · cases h
  have hun : ∀ H', opStep T nt C L st i o ⟨e, H', []⟩ = if Nat.ble 256 i then none else match wants L e o with
    | none => none
    | some false => stPut nt e o.dst undef H' []
    | some true => match aop T (idOf st i) e H' o.op with
      | none => none
      | some (.val v, H) => stPut nt e o.dst v ⟨H'.next, H.blk⟩ []
      | some (.skip, H) => stPut nt e o.dst undef ⟨H'.next, H.blk⟩ []
      | some (.defer d, _) => stPut nt e o.dst undef H' [d]
      | some (.panic v, _) => some (some v, ⟨e, H', []⟩)
      | some (.call f args, _) => match C f args H' with
        | none => none
        | some (.ret v, H) => stPut nt e o.dst v H []
        | some (.panic v, H) => some (some v, ⟨e, H, []⟩) := fun H' => rfl
  rw [hun] at h
  split at h
  · cases h
  rename_i hi
  split at h
  · cases h
  · rename_i hw
    exact ⟨none, fun H' => by rw [hst, hun, if_neg hi, hw]; exact sp h H'⟩
  · rename_i hw
    obtain ⟨out, H2, ho⟩ : ∃ out H2, aop T (idOf st i) e H o.op = some (out, H2) := by
      cases hq : aop T (idOf st i) e H o.op with
      | none => rw [hq] at h; cases h
      | some q => exact ⟨q.1, q.2, rfl⟩
    obtain ⟨v, B, rfl, hB⟩ := aop_mk hn.1 ho
    rw [ho] at h
    exact ⟨some B, fun H' => by rw [hst, hun, if_neg hi, hw, hB H']; exact sp h _⟩
end
end Go.Proofs.YtkgmpkoamicheaaGreatDoor.M
