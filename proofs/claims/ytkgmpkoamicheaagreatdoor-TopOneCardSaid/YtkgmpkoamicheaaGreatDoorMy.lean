/- The quick way's answers are the program's: regions in any order. No program in it. -/
import Derived.Test.YtkgmpkoamicheaaGreatDoorMx
namespace Go.Proofs.YtkgmpkoamicheaaGreatDoor.M

theorem filter_shorter {α : Type} {p q : α → Bool} : ∀ {l : List α}, (∀ x ∈ l, q x = true → p x = true) → (∃ x ∈ l, p x = true ∧ q x = false) → (l.filter q).length < (l.filter p).length
  | [], _, h => by obtain ⟨x, hx, _⟩ := h; cases hx
  | y :: l, h1, h2 => by
    have hle : (l.filter q).length ≤ (l.filter p).length := by
      have : ∀ (l : List α), (∀ x ∈ l, q x = true → p x = true) → (l.filter q).length ≤ (l.filter p).length := by
        intro l
        induction l with
        | nil => intro _; exact Nat.le_refl _
        | cons z l ih =>
          intro h
          have := ih fun x hx => h x (List.mem_cons_of_mem _ hx)
          have hz := h z List.mem_cons_self
          cases hq : q z <;> cases hp : p z <;> simp [List.filter_cons, hq, hp] <;> first | omega | (rw [hz hq] at hp; cases hp)
      exact this l fun x hx => h1 x (List.mem_cons_of_mem _ hx)
    obtain ⟨x, hx, hp, hq⟩ := h2
    cases hx with
    | head => simp [List.filter_cons, hp, hq]; omega
    | tail _ hx =>
      have := filter_shorter (l := l) (fun x hx => h1 x (List.mem_cons_of_mem _ hx)) ⟨x, hx, hp, hq⟩
      have hy := h1 y List.mem_cons_self
      cases hqy : q y <;> cases hpy : p y <;> simp [List.filter_cons, hqy, hpy] <;> first | omega | (rw [hy hqy] at hpy; cases hpy)

section
variable {P : Program} {T : Tab} {C : CallF} {nt : Nat} {L : List Oper} {st : Nat} {env0 : AEnv} {H0 : AHeap} {rs : List Rec}

/-- what was seen of a region -/
structure Seen (T : Tab) (nt : Nat) (C : CallF) (L : List Oper) (st : Nat) (env0 : AEnv) (H0 : AHeap) (rs : List Rec) : Prop where
  fits : fits T L (closeB 0 L .emp) 0 L = true
  len : rs.length = L.length
  way : ∀ x r y, rs = x ++ r :: y → Way T nt C L st env0 H0 x r

noncomputable def eff (T : Tab) (r : Rec) : Bool := !isFl T r.o.op

theorem Seen.left (h : Seen T nt C L st env0 H0 rs) {x y : List Rec} {r q : Rec} (e : rs = x ++ r :: y) (hq : q ∈ x) : q.i < r.i ∧ L[q.i]? = some q.o := by
  obtain ⟨x1, x2, rfl⟩ := List.append_of_mem hq
  have h1 := h.way x1 q (x2 ++ r :: y) (by rw [e]; simp)
  have h2 := h.way _ r y e
  rw [h1.i, h2.i]
  exact ⟨by simp, h1.o⟩
theorem Seen.right (h : Seen T nt C L st env0 H0 rs) {x y : List Rec} {r q : Rec} (e : rs = x ++ r :: y) (hq : q ∈ y) : r.i < q.i ∧ L[q.i]? = some q.o := by
  obtain ⟨y1, y2, rfl⟩ := List.append_of_mem hq
  have h1 := h.way (x ++ r :: y1) q y2 (by rw [e]; simp)
  have h2 := h.way _ r _ e
  rw [h1.i, h2.i]
  exact ⟨by simp only [List.length_append, List.length_cons]; omega, h1.o⟩
theorem Seen.at (h : Seen T nt C L st env0 H0 rs) {x y : List Rec} {r : Rec} (e : rs = x ++ r :: y) : L[r.i]? = some r.o := by
  have h2 := h.way _ r y e
  rw [h2.i]; exact h2.o
theorem Seen.split (h : Seen T nt C L st env0 H0 rs) {i : Nat} {o : Oper} (ho : L[i]? = some o) : ∃ x r y, rs = x ++ r :: y ∧ r.i = i ∧ r.o = o := by
  have hi : i < rs.length := by
    rw [h.len]
    rcases Nat.lt_or_ge i L.length with q | q
    · exact q
    · rw [List.getElem?_eq_none q] at ho; cases ho
  have e : rs = rs.take i ++ rs[i] :: rs.drop (i + 1) := by rw [List.getElem_cons_drop, List.take_append_drop]
  have hw := h.way _ _ _ e
  have hl : (rs.take i).length = i := by simp; omega
  refine ⟨_, _, _, e, by rw [hw.i, hl], ?_⟩
  have := hw.o
  rw [hl, ho] at this
  exact (Option.some.inj this).symm

/-- listed so far -/
structure Down (L : List Oper) (D : Nat → Bool) : Prop where
  closed : Closed L (fun j => D j = true)
def Rdy (L : List Oper) (D : Nat → Bool) (i : Nat) : Prop := ∀ o, L[i]? = some o → ∀ x ∈ direct o, D x = true
theorem ah_in {D : Nat → Bool} (hD : Down L D) {i j : Nat} (h : isAhead (closeB 0 L .emp) j i = true) (hr : Rdy L D i) : D j = true := by
  unfold isAhead at h
  split at h
  · rename_i b hb
    exact closeB_ok (L := L) L 0 .emp rfl (fun i b hb => by rw [Tr.get_e] at hb; cases hb) (fun i b hb => by rw [Tr.get_e] at hb; cases hb) i b hb j h _ hD.closed hr
  · cases h
theorem ah_done {D : Nat → Bool} (hD : Down L D) {i j : Nat} (h : isAhead (closeB 0 L .emp) j i = true) (hi : D i = true) : D j = true :=
  ah_in hD h fun o ho => hD.closed i o ho hi
theorem Seen.ahead (h : Seen T nt C L st env0 H0 rs) {i j : Nat} {o p : Oper} (ho : L[i]? = some o) (hp : L[j]? = some p) (hj : j < i) (hc : clash T L p o = true) : isAhead (closeB 0 L .emp) j i = true := by
  obtain ⟨_, b, hb, hh⟩ := fits_ok h.fits i o ho
  rw [Nat.zero_add] at hb hh
  unfold isAhead
  rw [hb]
  rcases hh j p hj hp with h1 | h1
  · exact h1
  · rw [h1] at hc; cases hc

theorem memN_of {x : Nat} : ∀ {l : List Nat}, x ∈ l → memN x l = true
  | _ :: _, h => by
    cases h with
    | head => simp [memN, Tr.beq_iff]
    | tail _ h => simp [memN, memN_of h]

variable {D : Nat → Bool} {x y : List Rec} {r : Rec}
theorem W1 (h : Seen T nt C L st env0 H0 rs) (hD : Down L D) (e : rs = x ++ r :: y) (hr : Rdy L D r.i) (hn : D r.i = false) {t : Tmp} (ht : t ∈ looks L r.o) : wr env0 (rs.filter fun q => D q.i) t = wr env0 x t := by
  have key : (rs.filter fun q => D q.i).filter (dstIs t) = x.filter (dstIs t) := by
    rw [e, List.filter_append, List.filter_cons, if_neg (by simp [hn]), List.filter_append]
    have h1 : (y.filter fun q => D q.i).filter (dstIs t) = [] := by
      rw [List.filter_eq_nil_iff]
      intro q hq hd
      obtain ⟨hq1, hq2⟩ := List.mem_filter.1 hq
      obtain ⟨hlt, ho⟩ := h.right e hq1
      have hd' : q.o.dst = some t := by simpa [dstIs] using hd
      have := ah_done hD (h.ahead ho (h.at e) hlt (by simp [clash, hd', memN_of ht])) hq2
      rw [hn] at this; cases this
    have h2 : (x.filter fun q => D q.i).filter (dstIs t) = x.filter (dstIs t) := by
      rw [List.filter_filter]
      refine List.filter_congr fun q hq => ?_
      cases hd : dstIs t q
      · rfl
      · have hd' : q.o.dst = some t := by simpa [dstIs] using hd
        obtain ⟨hlt, ho⟩ := h.left e hq
        have := ah_in hD (h.ahead (h.at e) ho hlt (by simp [clash, hd', memN_of ht])) hr
        simp [this]
    rw [h1, h2, List.append_nil]
  unfold wr
  rw [key]

theorem filter_set (h : Seen T nt C L st env0 H0 rs) (e : rs = x ++ r :: y) {D' : Nat → Bool} (hD' : ∀ j, D' j = (D j || j == r.i)) : (rs.filter fun q => D' q.i) = (x.filter fun q => D q.i) ++ r :: (y.filter fun q => D q.i) := by
  rw [e, List.filter_append, List.filter_cons, if_pos (by simp [hD'])]
  congr 1
  · refine List.filter_congr fun q hq => ?_
    have := (h.left e hq).1
    rw [hD', show (q.i == r.i) = false by simp; omega, Bool.or_false]
  · congr 1
    refine List.filter_congr fun q hq => ?_
    have := (h.right e hq).1
    rw [hD', show (q.i == r.i) = false by simp; omega, Bool.or_false]
theorem W2 (h : Seen T nt C L st env0 H0 rs) (hD : Down L D) (e : rs = x ++ r :: y) (hn : D r.i = false) {D' : Nat → Bool} (hD' : ∀ j, D' j = (D j || j == r.i)) (t : Tmp) :
    wr env0 (rs.filter fun q => D' q.i) t = if r.o.dst = some t then r.s.env.get t else wr env0 (rs.filter fun q => D q.i) t := by
  rw [filter_set h e hD']
  by_cases ht : r.o.dst = some t
  · rw [if_pos ht]
    have h1 : (y.filter fun q => D q.i).filter (dstIs t) = [] := by
      rw [List.filter_eq_nil_iff]
      intro q hq hd
      obtain ⟨hq1, hq2⟩ := List.mem_filter.1 hq
      obtain ⟨hlt, ho⟩ := h.right e hq1
      have hd' : q.o.dst = some t := by simpa [dstIs] using hd
      have := ah_done hD (h.ahead ho (h.at e) hlt (by simp [clash, hd', ht, Tr.beq_iff])) hq2
      rw [hn] at this; cases this
    unfold wr
    rw [List.filter_append, List.filter_cons, if_pos (by simp [dstIs, ht]), h1]
    simp
  · rw [if_neg ht]
    unfold wr
    have : ((x.filter fun q => D q.i) ++ r :: (y.filter fun q => D q.i)).filter (dstIs t) = (rs.filter fun q => D q.i).filter (dstIs t) := by
      rw [List.filter_append, List.filter_cons, if_neg (by simp [dstIs, ht])]
      conv => rhs; rw [e, List.filter_append, List.filter_cons, if_neg (by simp [hn]), List.filter_append]
    rw [this]

/-- one that lays new memory, and looks at none -/
noncomputable def mkR (L : List Oper) (r : Rec) : Bool := mkr L r.o
noncomputable def upd (T : Tab) (nt : Nat) (C : CallF) (L : List Oper) (st : Nat) (H : AHeap) (r : Rec) : AHeap :=
  match mkR L r with
  | true => (match opStepL T nt C L st r.i r.o ⟨r.e, H, []⟩ with | some (_, s) => s.H | none => H)
  | false => r.s.H
/-- the memory ahead of what comes next -/
noncomputable def hD (T : Tab) (nt : Nat) (C : CallF) (L : List Oper) (st : Nat) (H0 : AHeap) (rs : List Rec) (D : Nat → Bool) : AHeap := ((rs.filter (eff T)).filter fun q => D q.i).foldl (upd T nt C L st) H0
theorem hp_eff (h : Seen T nt C L st env0 H0 rs) : ∀ (n : Nat) (x y : List Rec), x.length = n → rs = x ++ y → hp H0 x = hp H0 (x.filter (eff T)) := by
  intro n
  induction n with
  | zero => intro x y hx _; rw [List.length_eq_zero_iff.1 hx]; rfl
  | succ n ih =>
    intro x y hx e
    have hne : x ≠ [] := by intro q; subst q; cases hx
    obtain ⟨z, r, rfl⟩ : ∃ z r, x = z ++ [r] := ⟨x.dropLast, x.getLast hne, (List.dropLast_concat_getLast hne).symm⟩
    have hz : z.length = n := by simpa using hx
    have ez : rs = z ++ r :: y := by rw [e]; simp
    have := ih z (r :: y) hz ez
    rw [List.filter_append]
    cases hr : eff T r
    · have h1 : [r].filter (eff T) = [] := by simp [hr]
      rw [h1, List.append_nil, ← this]
      have hs := (h.way z r y ez).step
      have hf : isFl T r.o.op = true := by simpa [eff] using hr
      have := opStepL_float hf hs
      simp [hp] at this ⊢
      exact this
    · have h1 : [r].filter (eff T) = [r] := by simp [hr]
      rw [h1]
      simp [hp]
theorem upd_way (h : Seen T nt C L st env0 H0 rs) {x y : List Rec} {r : Rec} (e : rs = x ++ r :: y) : upd T nt C L st (hp H0 x) r = r.s.H := by
  unfold upd
  split
  · rw [(h.way x r y e).step]
  · rfl
theorem fold_eff (h : Seen T nt C L st env0 H0 rs) : ∀ (n : Nat) (x y : List Rec), x.length = n → rs = x ++ y → (x.filter (eff T)).foldl (upd T nt C L st) H0 = hp H0 x := by
  intro n
  induction n with
  | zero => intro x y hx _; rw [List.length_eq_zero_iff.1 hx]; rfl
  | succ n ih =>
    intro x y hx e
    have hne : x ≠ [] := by intro q; subst q; cases hx
    obtain ⟨z, r, rfl⟩ : ∃ z r, x = z ++ [r] := ⟨x.dropLast, x.getLast hne, (List.dropLast_concat_getLast hne).symm⟩
    have hz : z.length = n := by simpa using hx
    have ez : rs = z ++ r :: y := by rw [e]; simp
    have := ih z (r :: y) hz ez
    rw [List.filter_append, List.foldl_append, this]
    cases hr : eff T r
    · have h1 : [r].filter (eff T) = [] := by simp [hr]
      rw [h1]
      have hf : isFl T r.o.op = true := by simpa [eff] using hr
      have := opStepL_float hf (h.way z r y ez).step
      simp [hp] at this ⊢
      exact this.symm
    · have h1 : [r].filter (eff T) = [r] := by simp [hr]
      rw [h1]
      simp only [List.foldl_cons, List.foldl_nil]
      rw [upd_way h ez]
      simp [hp]
theorem E1 (h : Seen T nt C L st env0 H0 rs) (hDn : Down L D) (e : rs = x ++ r :: y) (hr : Rdy L D r.i) (hn : D r.i = false) (hf : isFl T r.o.op = false) (hm : mkR L r = false) :
    (rs.filter (eff T)).filter (fun q => D q.i) = x.filter (eff T) := by
  have he : eff T r = true := by simp [eff, hf]
  have hm' : mkr L r.o = false := hm
  rw [e, List.filter_append, List.filter_append, List.filter_cons, if_pos he, List.filter_cons, if_neg (by simp [hn])]
  have h1 : (y.filter (eff T)).filter (fun q => D q.i) = [] := by
    rw [List.filter_eq_nil_iff]
    intro q hq hd
    obtain ⟨hq1, hq2⟩ := List.mem_filter.1 hq
    obtain ⟨hlt, ho⟩ := h.right e hq1
    have hq3 : isFl T q.o.op = false := by simpa [eff] using hq2
    have := ah_done hDn (h.ahead ho (h.at e) hlt (by simp [clash, hf, hq3, hm'])) hd
    rw [hn] at this; cases this
  have h2 : (x.filter (eff T)).filter (fun q => D q.i) = x.filter (eff T) := by
    rw [List.filter_eq_self]
    intro q hq
    obtain ⟨hq1, hq2⟩ := List.mem_filter.1 hq
    obtain ⟨hlt, ho⟩ := h.left e hq1
    have hq3 : isFl T q.o.op = false := by simpa [eff] using hq2
    exact ah_in hDn (h.ahead (h.at e) ho hlt (by simp [clash, hf, hq3, hm'])) hr
  rw [h1, h2, List.append_nil]
theorem upd_comm (h : Seen T nt C L st env0 H0 rs) {r q : Rec} (hr : mkR L r = true) (hq : mkR L q = true) (mr : r ∈ rs) (mq : q ∈ rs) (hn : r.i ≠ q.i) (H : AHeap) :
    upd T nt C L st (upd T nt C L st H r) q = upd T nt C L st (upd T nt C L st H q) r := by
  obtain ⟨x, y, e⟩ := List.append_of_mem mr
  obtain ⟨x', y', e'⟩ := List.append_of_mem mq
  obtain ⟨u, hu⟩ := opStepL_mk hr (h.way x r y e).step
  obtain ⟨v, hv⟩ := opStepL_mk hq (h.way x' q y' e').step
  have ur : ∀ H, upd T nt C L st H r = putO H (idOf st r.i) u := fun H => by unfold upd; rw [hr]; simp only; rw [hu]
  have uq : ∀ H, upd T nt C L st H q = putO H (idOf st q.i) v := fun H => by unfold upd; rw [hq]; simp only; rw [hv]
  rw [ur, uq, uq, ur]
  exact putO_comm H (by unfold idOf; omega) u v
theorem fold_comm (h : Seen T nt C L st env0 H0 rs) {r : Rec} (hr : mkR L r = true) (mr : r ∈ rs) : ∀ (l : List Rec) (H : AHeap), (∀ q ∈ l, q ∈ rs ∧ mkR L q = true ∧ r.i ≠ q.i) → l.foldl (upd T nt C L st) (upd T nt C L st H r) = upd T nt C L st (l.foldl (upd T nt C L st) H) r
  | [], _, _ => rfl
  | q :: l, H, hl => by
    obtain ⟨h1, h2, h3⟩ := hl q List.mem_cons_self
    simp only [List.foldl_cons]
    rw [upd_comm h hr h2 mr h1 h3, fold_comm h hr mr l _ fun z hz => hl z (List.mem_cons_of_mem _ hz)]
theorem hD_set (h : Seen T nt C L st env0 H0 rs) (hDn : Down L D) (e : rs = x ++ r :: y) (hr : Rdy L D r.i) (hn : D r.i = false) {D' : Nat → Bool} (hD' : ∀ j, D' j = (D j || j == r.i)) :
    hD T nt C L st H0 rs D' = if isFl T r.o.op then hD T nt C L st H0 rs D else upd T nt C L st (hD T nt C L st H0 rs D) r := by
  have hsw : ∀ (q : Nat → Bool), (rs.filter (eff T)).filter (fun z => q z.i) = (rs.filter fun z => q z.i).filter (eff T) := fun q => by rw [List.filter_filter, List.filter_filter]; exact List.filter_congr fun z _ => Bool.and_comm ..
  unfold hD
  cases hf : isFl T r.o.op
  · simp only [Bool.false_eq_true, if_false]
    rw [hsw, hsw, filter_set h e hD', List.filter_append, List.filter_cons, if_pos (by simp [eff, hf])]
    conv => rhs; rw [e, List.filter_append, List.filter_cons, if_neg (by simp [hn]), List.filter_append]
    rw [List.foldl_append, List.foldl_append, List.foldl_cons]
    refine fold_comm_or h hDn e hr hn hf _
  · simp only [if_true]
    rw [hsw, hsw, filter_set h e hD', List.filter_append, List.filter_cons, if_neg (by simp [eff, hf])]
    conv => rhs; rw [e, List.filter_append, List.filter_cons, if_neg (by simp [hn]), List.filter_append]
where
  fold_comm_or (h : Seen T nt C L st env0 H0 rs) (hDn : Down L D) (e : rs = x ++ r :: y) (hr : Rdy L D r.i) (hn : D r.i = false) (hf : isFl T r.o.op = false) (H : AHeap) :
      ((y.filter fun q => D q.i).filter (eff T)).foldl (upd T nt C L st) (upd T nt C L st H r) = upd T nt C L st (((y.filter fun q => D q.i).filter (eff T)).foldl (upd T nt C L st) H) r := by
    have key : ∀ q ∈ (y.filter fun q => D q.i).filter (eff T), q ∈ rs ∧ mkR L q = true ∧ mkR L r = true ∧ r.i ≠ q.i := fun q hq => by
      obtain ⟨hq0, hq3⟩ := List.mem_filter.1 hq
      obtain ⟨hq1, hd⟩ := List.mem_filter.1 hq0
      obtain ⟨hlt, ho⟩ := h.right e hq1
      have hq4 : isFl T q.o.op = false := by simpa [eff] using hq3
      have both : (mkr L r.o && mkr L q.o) = true := by
        cases hb1 : mkr L r.o <;> cases hb2 : mkr L q.o <;> first
          | rfl
          | (exfalso
             have := ah_done hDn (h.ahead ho (h.at e) hlt (by simp [clash, hf, hq4, hb1, hb2])) hd
             rw [hn] at this; cases this)
      simp only [Bool.and_eq_true] at both
      exact ⟨by rw [e]; simp [hq1], both.2, both.1, by omega⟩
    cases hl : (y.filter fun q => D q.i).filter (eff T) with
    | nil => rfl
    | cons q l =>
      have hr' := (key q (by rw [hl]; exact List.mem_cons_self)).2.2.1
      exact fold_comm h hr' (by rw [e]; simp) _ _ fun z hz => by
        obtain ⟨k1, k2, _, k4⟩ := key z (by rw [hl]; exact hz)
        exact ⟨k1, k2, k4⟩
/-- where all that changes something has one order -/
def Strict (T : Tab) (L : List Oper) : Prop := ∀ k o, L[k]? = some o → isFl T o.op = false → ∀ j q, j < k → L[j]? = some q → isFl T q.op = false → isAhead (closeB 0 L .emp) j k = true
theorem strict_fold (h : Seen T nt C L st env0 H0 rs) (hs : Strict T L) (hDn : Down L D) : ∀ (n : Nat) (x y : List Rec), x.length = n → rs = x ++ y → ((x.filter (eff T)).filter fun q => D q.i).foldl (upd T nt C L st) H0 = hp H0 ((x.filter (eff T)).filter fun q => D q.i) := by
  intro n
  induction n with
  | zero => intro x y hx _; rw [List.length_eq_zero_iff.1 hx]; rfl
  | succ n ih =>
    intro x y hx e
    have hne : x ≠ [] := by intro q; subst q; cases hx
    obtain ⟨z, r, rfl⟩ : ∃ z r, x = z ++ [r] := ⟨x.dropLast, x.getLast hne, (List.dropLast_concat_getLast hne).symm⟩
    have hz : z.length = n := by simpa using hx
    have ez : rs = z ++ r :: y := by rw [e]; simp
    have := ih z (r :: y) hz ez
    rw [List.filter_append]
    cases hr : eff T r
    · have h1 : [r].filter (eff T) = [] := by simp [hr]
      rw [h1, List.append_nil]; exact this
    · have h1 : [r].filter (eff T) = [r] := by simp [hr]
      rw [h1, List.filter_append]
      cases hd : D r.i
      · have h2 : [r].filter (fun q => D q.i) = [] := by simp [hd]
        rw [h2, List.append_nil]; exact this
      · have h2 : [r].filter (fun q => D q.i) = [r] := by simp [hd]
        have hf : isFl T r.o.op = false := by simpa [eff] using hr
        have h3 : (z.filter (eff T)).filter (fun q => D q.i) = z.filter (eff T) := by
          rw [List.filter_eq_self]
          intro q hq
          obtain ⟨hq1, hq2⟩ := List.mem_filter.1 hq
          obtain ⟨hlt, ho⟩ := h.left ez hq1
          have hq3 : isFl T q.o.op = false := by simpa [eff] using hq2
          exact ah_done hDn (hs r.i r.o (h.at ez) hf q.i q.o hlt ho hq3) hd
        rw [h2, h3, List.foldl_append, fold_eff h _ z (r :: y) rfl ez]
        simp only [List.foldl_cons, List.foldl_nil]
        rw [upd_way h ez]
        simp [hp]
theorem float_at {t : Tr (List Nat)} {r : Rec} (hn : D r.i = false) (h2 : ∀ j, D j = true → isAhead t r.i j = false) : ∀ {es : List Rec} {p : Option Nat} {H : AHeap}, floatOk T nt C L st t r p H es = true →
    (∀ x q y, es = x ++ q :: y → ∀ q' ∈ y, D q'.i = true → D q.i = true) → (∀ j, p = some j → D j = true) → (∀ q ∈ es, D q.i = false → isAhead t q.i r.i = false) →
    againOk T nt C L st r (hp H (es.filter fun q => D q.i)) = true
  | [], p, H, h, _, hp', _ => by
    simp only [floatOk, Bool.or_eq_true] at h
    rcases h with h | h
    · cases p with
      | some j => have h : isAhead t r.i j = true := h; rw [h2 j (hp' j rfl)] at h; cases h
      | none => cases h
    · exact h
  | q :: l, p, H, h, hc, hp', ha => by
    simp only [floatOk, Bool.and_eq_true, Bool.or_eq_true] at h
    cases hq : D q.i
    · have : (q :: l).filter (fun q => D q.i) = [] := by
        rw [List.filter_eq_nil_iff]
        intro z hz hd
        cases hz with
        | head => rw [hq] at hd; cases hd
        | tail _ hz => have := hc [] q l rfl z hz hd; rw [hq] at this; cases this
      rw [this]
      rcases h.1 with (h1 | h1) | h1
      · cases p with
        | some j => have h1 : isAhead t r.i j = true := h1; rw [h2 j (hp' j rfl)] at h1; cases h1
        | none => cases h1
      · rw [ha q List.mem_cons_self hq] at h1; cases h1
      · exact h1
    · have := float_at hn h2 (es := l) (p := some q.i) (H := q.s.H) h.2 (fun x z y e z' hz' => hc (q :: x) z y (by rw [e]; rfl) z' hz') (fun j hj => by cases hj; exact hq) (fun z hz => ha z (List.mem_cons_of_mem _ hz))
      rw [List.filter_cons, if_pos hq]
      have e : hp H (q :: l.filter fun q => D q.i) = hp q.s.H (l.filter fun q => D q.i) := by
        unfold hp
        rw [List.getLast?_cons]
        cases (l.filter fun q => D q.i).getLast? <;> rfl
      rw [e]; exact this
theorem floatsOk_mem {t : Tr (List Nat)} {H : AHeap} {es : List Rec} : ∀ {l : List Rec}, floatsOk T nt C L st t H es l = true → ∀ r ∈ l, isFl T r.o.op = true → floatOk T nt C L st t r none H es = true
  | [], _, _, hr, _ => by cases hr
  | q :: l, h, r, hr, hf => by
    simp only [floatsOk, Bool.and_eq_true] at h
    cases hr with
    | head => rw [if_pos hf] at h; exact h.1
    | tail _ hr => exact floatsOk_mem h.2 r hr hf
/-- what is carried out again yields the same -/
def AgainP (T : Tab) (nt : Nat) (C : CallF) (L : List Oper) (st : Nat) (r : Rec) (H : AHeap) : Prop :=
  ∃ en H', opStepL T nt C L st r.i r.o ⟨r.e, H, []⟩ = some (none, ⟨en, H', []⟩) ∧ ∀ d v, r.o.dst = some d → r.s.env.get d = some v → en.get d = some v
def Again (T : Tab) (nt : Nat) (C : CallF) (L : List Oper) (st : Nat) (H0 : AHeap) (rs : List Rec) : Prop :=
  ∀ {D : Nat → Bool} {x y : List Rec} {r : Rec}, Down L D → rs = x ++ r :: y → Rdy L D r.i → D r.i = false → isFl T r.o.op = true → AgainP T nt C L st r (hD T nt C L st H0 rs D)
theorem again_of {r : Rec} {H : AHeap} (ha : againOk T nt C L st r H = true) : AgainP T nt C L st r H := by
  unfold againOk at ha
  split at ha
  · rename_i en H' hs
    refine ⟨en, H', hs, fun d v hd hv => ?_⟩
    rw [hd] at ha
    obtain ⟨u, h1, h2⟩ := oEq_eq ha
    rw [h1] at hv
    cases hv
    exact h2
  · cases ha
theorem again_at (h : Seen T nt C L st env0 H0 rs) (hs : Strict T L) (hfl : floatsOk T nt C L st (closeB 0 L .emp) H0 (rs.filter fun r => !isFl T r.o.op) rs = true) (hDn : Down L D) (e : rs = x ++ r :: y) (hr : Rdy L D r.i) (hn : D r.i = false) (hf : isFl T r.o.op = true) : againOk T nt C L st r (hD T nt C L st H0 rs D) = true := by
  have hst := strict_fold h hs hDn rs.length rs [] rfl (by simp)
  unfold hD
  rw [hst]
  have hmem : r ∈ rs := by rw [e]; simp
  refine float_at hn (fun j hj => ?_) (floatsOk_mem hfl r hmem hf) ?_ (fun j hj => by cases hj) ?_
  · cases ha : isAhead (closeB 0 L .emp) r.i j
    · rfl
    · have := ah_done hDn ha hj; rw [hn] at this; cases this
  · intro u q v eq q' hq' hd
    have hq : q ∈ rs.filter (eff T) := by
      have : q ∈ u ++ q :: v := by simp
      rw [← eq] at this; exact this
    obtain ⟨hqm, hqe⟩ := List.mem_filter.1 hq
    have hq'2 : q' ∈ rs.filter (eff T) := by
      have : q' ∈ u ++ q :: v := by simp [hq']
      rw [← eq] at this; exact this
    obtain ⟨hqm', hqe'⟩ := List.mem_filter.1 hq'2
    obtain ⟨a1, b1, e1⟩ := List.append_of_mem hqm
    have hlt : q'.i ∈ [q'.i] := by simp
    -- q comes ahead of q'
    have hsub : (u ++ q :: v).Sublist rs := by rw [← eq]; exact List.filter_sublist
    have hpair : rs.Pairwise (fun a b => a.i < b.i) := by
      rw [List.pairwise_iff_getElem]
      intro i j hi hj hij
      have hsp : ∀ k (hk : k < rs.length), rs[k].i = k := fun k hk => by
        have ek : rs = rs.take k ++ rs[k] :: rs.drop (k + 1) := by rw [List.getElem_cons_drop, List.take_append_drop]
        have := (h.way _ _ _ ek).i
        rw [this]; simp; omega
      rw [hsp i hi, hsp j hj]; exact hij
    have hp2 := hpair.sublist hsub
    rw [List.pairwise_append] at hp2
    have hqq := (List.pairwise_cons.1 hp2.2.1).1 q' hq'
    obtain ⟨a2, b2, e2⟩ := List.append_of_mem hqm'
    exact ah_done hDn (hs q'.i q'.o (h.at e2) (by simpa [eff] using hqe') q.i q.o hqq (h.at e1) (by simpa [eff] using hqe)) hd
  · intro q hq hd
    cases ha : isAhead (closeB 0 L .emp) q.i r.i
    · rfl
    · have := ah_in hDn ha hr; rw [hd] at this; cases this
theorem again_floats (h : Seen T nt C L st env0 H0 rs) (hs : Strict T L) (hfl : floatsOk T nt C L st (closeB 0 L .emp) H0 (rs.filter fun r => !isFl T r.o.op) rs = true) : Again T nt C L st H0 rs :=
  fun hDn e hr hn hf => again_of (again_at h hs hfl hDn e hr hn hf)
end
end Go.Proofs.YtkgmpkoamicheaaGreatDoor.M
