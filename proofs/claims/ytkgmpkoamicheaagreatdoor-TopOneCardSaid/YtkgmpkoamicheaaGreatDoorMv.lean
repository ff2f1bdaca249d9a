/- The quick way's answers are the program's: regions in the text's order, code. No program in it. -/
import Derived.Test.YtkgmpkoamicheaaGreatDoorMu
import Derived.RangeFuncRecord
import Derived.OrdersIn
import Derived.Tactics
namespace Go.Proofs.YtkgmpkoamicheaaGreatDoor.M
section
variable {P : Program} {T : Tab}

def Fresh (m : Mu) (n : Nat) : Prop := ∀ b l, m b = some l → b < n * 256
def New (n k : Nat) : Nat → Prop := fun i => n * 256 ≤ i ∧ i < k * 256

/-- what a call comes to, said of the world -/
def CallPost (base : Nat) (m : Mu) (H : AHeap) (w : World) (r : Ret) (H1 : AHeap) : Ending → World → Prop
  | .returned v', w' => ∃ v m', r = .ret v ∧ VR m' v v' ∧ Stp base m H w m' H1 w' (New H.next H1.next) ∧ Fresh m' H1.next ∧ H.next ≤ H1.next
  | .panicked chain, w' => ∃ v v' m', r = .panic v ∧ chain = [{ v := v', recovered := false }] ∧ VR m' v v' ∧ Stp base m H w m' H1 w' (New H.next H1.next) ∧ Fresh m' H1.next ∧ H.next ≤ H1.next
  | .outgrown, _ => False
/-- rd: may a round be asked for? -/
def Meets (rd : Prop) (P : Program) (Φ : Ending → World → Prop) : Result Next → Prop
  | .ok (.value v) w => Φ (.returned v) w
  | .ok (.enter f args) w => Calls P f args w Φ
  | .ok (.round l f tmps x y) w => rd ∧ RoundIn Fence.wide 0 P l f tmps x y w Φ
  | _ => False
theorem Meets.mono {rd rd' : Prop} (hd : rd → rd') {P : Program} {Φ : Ending → World → Prop} {r : Result Next} (h : Meets rd P Φ r) : Meets rd' P Φ r := by
  cases r with
  | halt _ _ => exact h
  | ok x w =>
    cases x <;> first | exact h | skip
    exact ⟨hd h.1, h.2⟩
structure CallOk (rd : Prop) (P : Program) (C : CallF) : Prop where
  call : ∀ base m H w f args (args' : Array Value) r H1, R base m H w → base ≤ w.heap.size → Fresh m H.next → VRs m args args'.toList → C (.func f) args H = some (r, H1) →
    Meets False P (CallPost base m H w r H1) ((callFunc f args').run P w)
  yld : ∀ base m H w b l args (args' : Array Value) r H1, R base m H w → base ≤ w.heap.size → Fresh m H.next → m b = some l → VRs m args args'.toList → C (.yield b) args H = some (r, H1) →
    rd ∧ Meets True P (CallPost base m H w r H1) ((Instr.yield l.blk args').run P w)
  enter : ∀ base m H w f n args (args' : Array Value) r H1, R base m H w → base ≤ w.heap.size → Fresh m H.next → VRs m args args'.toList → C (.methodOf f n) args H = some (r, H1) →
    (∀ args w, (callFunc f args).run P w = .ok (.enter f args) w) ∧ Calls P f args' w (CallPost base m H w r H1)
theorem CallOk.meets {rd : Prop} {P : Program} {C : CallF} (h : CallOk rd P C) {base : Nat} {m : Mu} {H : AHeap} {w : World} {f f' : Fn} {args : List Value} {args' : Array Value} {r : Ret} {H1 : AHeap} (h1 : R base m H w) (h2 : base ≤ w.heap.size) (h3 : Fresh m H.next)
    (h4 : FnR m f f') (h5 : VRs m args args'.toList) (h6 : C f args H = some (r, H1)) : Meets rd P (CallPost base m H w r H1) ((calleeRun f' args').run P w) := by
  cases h4 with
  | func f => exact (h.call base m H w f args args' r H1 h1 h2 h3 h5 h6).mono fun q => q.elim
  | yld hl =>
    obtain ⟨a, b⟩ := h.yld base m H w _ _ args args' r H1 h1 h2 h3 hl h5 h6
    exact b.mono fun _ => a
theorem CallOk.noYield {P : Program} {C : CallF} {rd : Prop} (h : CallOk rd P C) : CallOk False P (M.noYield C) :=
  ⟨fun base m H w f args args' r H1 h1 h2 h3 h5 h6 => h.call base m H w f args args' r H1 h1 h2 h3 h5 h6, fun base m H w b l args args' r H1 h1 h2 h3 h4 h5 h6 => (by cases h6),
    fun base m H w f n args args' r H1 h1 h2 h3 h5 h6 => h.enter base m H w f n args args' r H1 h1 h2 h3 h5 h6⟩
/-- what an operation has led to -/
def UponX (rd : Prop) (P : Program) (o : Oper) (a : Act) (K : Act → World → Prop) (Q : Exit → Act → World → Prop) : Result Next → Prop
  | .ok (.value v) w => K (a.put o.dst v) w
  | .ok .skip w => K (a.put o.dst Go.undef) w
  | .ok (.defer d) w => K ({ a with defers := d :: a.defers }.put o.dst Go.undef) w
  | .ok (.enter f args) w => Calls P f args w fun
    | .returned v, w' => K (a.put o.dst v) w'
    | .panicked chain, w' => Q (.panic chain) a w'
    | .outgrown, _ => False
  | .ok (.round l f tmps x y) w => rd ∧ RoundIn Fence.wide 0 P l f tmps x y w fun
    | .returned v, w' => K (a.put o.dst v) w'
    | .panicked chain, w' => Q (.panic chain) a w'
    | .outgrown, _ => False
  | .halt (.panic v) w => Q (.panic [{ v, recovered := false }]) a w
  | _ => False
/-- everything is let in; a round's frame, or a plain one -/
def fen (rl : Option Nat) : Fence := { Fence.wide with round := rl }
theorem fen_callsIn {rl : Option Nat} {n : Nat} {P : Program} {f : FuncId} {args : Array Value} {w : World} {R : Ending → World → Prop} (h : Calls P f args w R) : CallsIn (fen rl) n P f args w R :=
  (callsIn_wide (n := n)).2 h
theorem noDefer_ne {op : Op} (h : noDefer op = true) (c : Call) : op ≠ .defer c := by
  rintro rfl; cases h
theorem UponX.wpIn {rd : Prop} {P : Program} {o : Oper} {a : Act} {K : Act → World → Prop} {Q : Exit → Act → World → Prop} {w : World} {rl : Option Nat} (ho : rl = none ∨ noDefer o.op = true)
    (h : UponX rd P o a K Q ((execOp a.eval o).run P w)) : o.wpIn (fen rl) 0 P a w K Q := by
  refine ⟨fun _ _ => trivial, ?_⟩
  have hs : o.semAt (fen rl).round a.eval = execOp a.eval o := by
    rcases ho with rfl | ho
    · rfl
    · exact Oper.semAt_eq _ _ _ (noDefer_ne ho)
  rw [hs]
  generalize (execOp a.eval o).run P w = r at h
  have hd : (fen rl).depth.isSome = true → 1 ≤ 0 := fun q => by cases q
  cases r with
  | ok x w' =>
    cases x <;> simp only [UponX] at h <;> simp only [Oper.uponIn] <;>
      first
        | exact h
        | exact ⟨hd, fen_callsIn (Calls.mono h fun e w'' he => by cases e <;> first | exact he | exact he.elim)⟩
        | exact ⟨hd, RoundIn.mono h.2 fun e w'' he => by cases e <;> first | exact he | exact he.elim⟩
        | exact h.elim
  | halt x w' => cases x <;> simp only [UponX] at h <;> simp only [Oper.uponIn] <;> first | exact h | exact h.elim
theorem UponX.upon {P : Program} {o : Oper} {a : Act} {K : Act → World → Prop} {Q : Exit → Act → World → Prop} {r : Result Next} (h : UponX False P o a K Q r) : o.upon P a K Q r := by
  cases r with
  | ok x w' =>
    cases x <;> simp only [UponX] at h <;> simp only [Oper.upon] <;>
      first
        | exact h
        | exact Calls.mono h fun e w'' he => by cases e <;> first | exact he | exact he.elim
        | exact h.1.elim
        | exact h.elim
  | halt x w' => cases x <;> simp only [UponX] at h <;> simp only [Oper.upon] <;> first | exact h | exact h.elim

def ExR (m : Mu) : Ex → Exit → Prop
  | .normal, .normal => True
  | .exit i, .exit j => i = j
  | .goto i, .goto j => i = j
  | .ret, .ret => True
  | .panic v, .panic chain => ∃ v', chain = [{ v := v', recovered := false }] ∧ VR m v v'
  | _, _ => False
/-- what is put off to the end -/
def DR (m : Mu) (d : ADef) (d' : Deferred) : Prop :=
  (d.col = none ∧ ∃ cap' : Array Value, d'.target = .fn (.func d.f) cap' ∧ VRs m d.args d'.args.toList ∧ VRs m d.cap cap'.toList) ∨
  ∃ D l, d.col = some D ∧ m D = some l ∧ d'.target = .collected l.blk
inductive DRs (m : Mu) : List ADef → List Deferred → Prop
  | nil : DRs m [] []
  | cons {d : ADef} {d' : Deferred} {l : List ADef} {l' : List Deferred} (h : DR m d d') (k : DRs m l l') : DRs m (d :: l) (d' :: l')
theorem DR.mono {m m' : Mu} (hm : m.le m') {d : ADef} {d' : Deferred} (h : DR m d d') : DR m' d d' := by
  rcases h with ⟨h0, c, h1, h2, h3⟩ | ⟨D, l, h1, h2, h3⟩
  · exact .inl ⟨h0, c, h1, h2.mono hm, h3.mono hm⟩
  · exact .inr ⟨D, l, h1, hm _ _ h2, h3⟩
theorem DRs.mono {m m' : Mu} (hm : m.le m') {l : List ADef} {l' : List Deferred} (h : DRs m l l') : DRs m' l l' := by
  induction h with
  | nil => exact .nil
  | cons h _ ih => exact .cons (h.mono hm) ih
/-- a frame's state -/
structure SR (m : Mu) (nt : Nat) (s : St) (a : Act) : Prop where
  env : ERel m nt s.env a
  ds : DRs m s.ds a.defers
theorem SR.mono {m m' : Mu} (hm : m.le m') {nt : Nat} {s : St} {a : Act} (h : SR m nt s a) : SR m' nt s a := ⟨h.env.mono hm, h.ds.mono hm⟩

def Post (base : Nat) (m : Mu) (H : AHeap) (w : World) (nt : Nat) (r : Ex × St) : Exit → Act → World → Prop := fun e a' w' =>
  ∃ m', ExR m' r.1 e ∧ SR m' nt r.2 a' ∧ Stp base m H w m' r.2.H w' (New H.next r.2.H.next) ∧ Fresh m' r.2.H.next ∧ H.next ≤ r.2.H.next

theorem wants_ok {m : Mu} {nt : Nat} {env : AEnv} {a : Act} {ops : Array Oper} {o : Oper} {b : Bool} (he : ERel m nt env a) (h : wants ops.toList env o = some b) : Region.wanted o (yielded ops a.tmps) = b := by
  unfold wants at h
  unfold Region.wanted
  split at h
  · rename_i hg
    obtain rfl := Option.some.inj h
    rw [hg]
  · rename_i j want hg
    rw [hg]
    split at h
    case h_2 => cases h
    rename_i p hp
    have hp' : ops[j]? = some p := by simpa using hp
    split at h
    case h_2 => cases h
    rename_i d hd
    have hy : yielded ops a.tmps j = match a.tmps[d]? with | some (.bool b) => some b | _ => none := by
      simp only [yielded, hp', hd, Option.bind_some]
      rfl
    split at h
    · rename_i v hv
      obtain rfl := Option.some.inj h
      obtain ⟨v', h1, h2⟩ := he.2 d _ hv
      cases h2
      simp only [hy, h1]
      cases v <;> cases want <;> rfl
    · rename_i v hv
      obtain rfl := Option.some.inj h
      obtain ⟨v', h1, h2⟩ := he.2 d _ hv
      cases h2
      simp only [hy, h1]
      rfl
    · cases h

/-- the numbers used so far in a region that has carried out the operations S -/
def Used (stamp : Nat) (S : Nat → Prop) (n b : Nat) : Prop := b < stamp * 256 ∨ (∃ j, S j ∧ j < 256 ∧ b = stamp * 256 + j) ∨ ((stamp + 1) * 256 ≤ b ∧ b < n * 256)
def Plus (S : Nat → Prop) (i : Nat) : Nat → Prop := fun j => S j ∨ j = i
theorem Used.mono {stamp n n' b : Nat} {S S' : Nat → Prop} (h : Used stamp S n b) (hs : ∀ j, S j → S' j) (hn : n ≤ n') : Used stamp S' n' b := by
  rcases h with h | ⟨j, h1, h2, h3⟩ | ⟨h1, h2⟩
  · exact .inl h
  · exact .inr (.inl ⟨j, hs j h1, h2, h3⟩)
  · exact .inr (.inr ⟨h1, Nat.lt_of_lt_of_le h2 (Nat.mul_le_mul_right _ hn)⟩)
theorem Used.id_new {stamp n i : Nat} {S : Nat → Prop} (hS : ¬ S i) (hi : i < 256) : ¬ Used stamp S n (idOf stamp i) := by
  unfold Used idOf
  rintro (h | ⟨j, h1, h2, h3⟩ | ⟨h1, h2⟩)
  · omega
  · have : j = i := by omega
    exact hS (this ▸ h1)
  · rw [Nat.add_mul] at h1; omega
theorem Used.lt {stamp n b : Nat} {S : Nat → Prop} (h : Used stamp S n b) (hs : stamp < n) : b < n * 256 := by
  have h2 : (stamp + 1) * 256 ≤ n * 256 := Nat.mul_le_mul_right _ hs
  have h3 : (stamp + 1) * 256 = stamp * 256 + 256 := by rw [Nat.add_mul]
  rw [h3] at h2
  rcases h with h | ⟨j, _, h1, h4⟩ | ⟨_, h1⟩
  · exact Nat.lt_of_lt_of_le h (Nat.le_trans (Nat.le_add_right _ _) h2)
  · rw [h4]; exact Nat.lt_of_lt_of_le (Nat.add_lt_add_left h1 _) h2
  · exact h1
theorem Used.not_new {stamp n k b : Nat} {S : Nat → Prop} (hb : New n k b) (hs : stamp < n) : ¬ Used stamp S n b := fun h => by
  have := h.lt hs
  exact Nat.lt_irrefl _ (Nat.lt_of_lt_of_le this hb.1)
theorem Used.of_new {stamp n k b : Nat} {S : Nat → Prop} (hb : New n k b) (hs : stamp < n) : Used stamp S k b :=
  .inr (.inr ⟨Nat.le_trans (Nat.mul_le_mul_right _ hs) hb.1, hb.2⟩)

theorem put_defers (a : Act) (d : Option Tmp) (v : Value) : (a.put d v).defers = a.defers := by cases d <;> rfl

theorem Stp.renext {base : Nat} {m m' : Mu} {H H' : AHeap} {w w' : World} {N : Nat → Prop} (h : Stp base m H w m' H' w' N) (n : Nat) : Stp base m H w m' ⟨n, H'.blk⟩ w' N :=
  ⟨h.ext, ⟨h.rel.live, h.rel.inj⟩, h.fr, h.bk⟩
theorem stPut_inv {nt : Nat} {env : AEnv} {dst : Option Tmp} {v : Value} {H : AHeap} {ds : List ADef} {r : Option Value × St} (h : stPut nt env dst v H ds = some r) : ∃ e, putT nt env dst v = some e ∧ r = (none, ⟨e, H, ds⟩) := by
  unfold stPut at h
  split at h
  · rename_i e he; exact ⟨e, he, (Option.some.inj h).symm⟩
  · cases h
/-- where an operation leads -/
structure Did (base : Nat) (m : Mu) (H : AHeap) (w : World) (stamp : Nat) (S : Nat → Prop) (i : Nat) (m' : Mu) (H' : AHeap) (w' : World) : Prop where
  stp : Stp base m H w m' H' w' (fun b => ¬ Used stamp S H.next b)
  used : ∀ b l, m' b = some l → Used stamp (Plus S i) H'.next b
  next : H.next ≤ H'.next
/-- one operation of a region -/
theorem opStep_ok {rd : Prop} (hT : TabOk P T) {C : CallF} (hC : CallOk rd P C) {nt : Nat} {ops : Array Oper} {stamp i : Nat} {o : Oper} {s s' : St} {pv : Option Value} (h : opStep T nt C ops.toList stamp i o s = some (pv, s'))
    {base : Nat} {m : Mu} {a : Act} {w : World} (hR : R base m s.H w) (hb : base ≤ w.heap.size) (he : ERel m nt s.env a) {S : Nat → Prop} (hS : ¬ S i) (hu : ∀ b l, m b = some l → Used stamp S s.H.next b) (hst : stamp < s.H.next)
    {K : Act → World → Prop} {Q : Exit → Act → World → Prop}
    (hK : ∀ m' a' w', pv = none → Did base m s.H w stamp S i m' s'.H w' → ERel m' nt s'.env a' → (∃ v', a'.tmps = (a.put o.dst v').tmps) →
      ((s'.ds = s.ds ∧ a'.defers = a.defers) ∨ (∃ d d', s'.ds = d :: s.ds ∧ a'.defers = d' :: a.defers ∧ DR m' d d')) → K a' w')
    (hQ : ∀ v m' v' w', pv = some v → s'.ds = s.ds → s'.env = s.env → VR m' v v' → Did base m s.H w stamp S i m' s'.H w' → Q (.panic [{ v := v', recovered := false }]) a w') :
    if Region.wanted o (yielded ops a.tmps) then UponX rd P o a K Q ((execOp a.eval o).run P w) else K (a.put o.dst Go.undef) w := by
  unfold opStep at h
  split at h
  · cases h
  rename_i hi
  have hi256 : i < 256 := by
    have : ¬ 256 ≤ i := fun hh => hi (Nat.ble_eq_true_of_le hh)
    omega
  have hidn : ¬ Used stamp S s.H.next (idOf stamp i) := Used.id_new hS hi256
  have hid : m (idOf stamp i) = none := by
    cases hm : m (idOf stamp i) with
    | none => rfl
    | some l => exact absurd (hu _ l hm) hidn
  have step1 : ∀ (m' : Mu), Ext m m' (· = idOf stamp i) → ∀ b l, m' b = some l → Used stamp (Plus S i) s.H.next b := fun m' hx b l hb' => by
    rcases hx.2 b l hb' with h1 | ⟨_, h1⟩
    · exact (hu b l h1).mono (fun j hj => .inl hj) (Nat.le_refl _)
    · exact .inr (.inl ⟨i, .inr rfl, hi256, h1⟩)
  have did0 : Did base m s.H w stamp S i m s.H w := ⟨Stp.refl hR _, step1 m (Ext.refl m _), Nat.le_refl _⟩
  have did1 : ∀ m' H' w', Stp base m s.H w m' H' w' (· = idOf stamp i) → Did base m s.H w stamp S i m' ⟨s.H.next, H'.blk⟩ w' := fun m' H' w' g =>
    ⟨(g.weaken fun b hb => by subst hb; exact hidn).renext _, step1 m' g.ext, Nat.le_refl _⟩
  split at h
  · cases h
  · -- not wanted
    rename_i hw
    rw [if_neg (by rw [wants_ok he hw]; simp)]
    obtain ⟨e', hp, hr⟩ := stPut_inv h
    obtain ⟨rfl, rfl⟩ := Prod.mk.inj hr
    exact hK m _ w rfl did0 (put_ok he hp (VR.undef m)) ⟨_, rfl⟩ (.inl ⟨rfl, put_defers _ _ _⟩)
  · rename_i hw
    rw [if_pos (wants_ok he hw)]
    split at h
    · cases h
    · -- a value
      rename_i v H' ha
      obtain ⟨m', w', v', g1, g2, g3⟩ := aop_ok (P := P) hT hR hb hid he ha
      obtain ⟨e', hp, hr⟩ := stPut_inv h
      obtain ⟨rfl, rfl⟩ := Prod.mk.inj hr
      rw [g1]
      exact hK m' _ w' rfl (did1 m' H' w' g3) (put_ok (he.mono g3.ext.1) hp g2) ⟨_, rfl⟩ (.inl ⟨rfl, put_defers _ _ _⟩)
    · -- nothing
      rename_i H' ha
      obtain ⟨m', w', g1, g3⟩ := aop_ok (P := P) hT hR hb hid he ha
      obtain ⟨e', hp, hr⟩ := stPut_inv h
      obtain ⟨rfl, rfl⟩ := Prod.mk.inj hr
      rw [g1]
      exact hK m' _ w' rfl (did1 m' H' w' g3) (put_ok (he.mono g3.ext.1) hp (VR.undef m')) ⟨_, rfl⟩ (.inl ⟨rfl, put_defers _ _ _⟩)
    · -- put off
      rename_i d H' ha
      obtain ⟨args', cap', g1, g2, g3, g4, rfl⟩ := aop_ok (P := P) hT hR hb hid he ha
      obtain ⟨e', hp, hr⟩ := stPut_inv h
      obtain ⟨rfl, rfl⟩ := Prod.mk.inj hr
      rw [g1]
      have he2 := put_ok he hp (VR.undef m)
      have ht : ∀ d', (({ a with defers := d' :: a.defers } : Act).put o.dst undef).tmps = (a.put o.dst undef).tmps := fun d' => by cases o.dst <;> rfl
      exact hK m _ w rfl did0 ⟨by rw [ht]; exact he2.1, by rw [ht]; exact he2.2⟩ ⟨_, ht _⟩ (.inr ⟨_, _, rfl, put_defers _ _ _, .inl ⟨g4, cap', rfl, g2, g3⟩⟩)
    · -- a panic
      rename_i v H' ha
      obtain ⟨v', g1, g2, rfl⟩ := aop_ok (P := P) hT hR hb hid he ha
      obtain ⟨rfl, rfl⟩ := Prod.mk.inj (Option.some.inj h)
      rw [g1]
      exact hQ v m v' w rfl rfl rfl g2 did0
    · -- a call
      rename_i f args H' ha
      obtain ⟨f', args', g1, gf, g2, rfl⟩ := aop_ok (P := P) hT hR hb hid he ha
      have hfresh : Fresh m s.H.next := fun b l hb' => (hu b l hb').lt hst
      have didc : ∀ m' H2 w', Stp base m s.H w m' H2 w' (New s.H.next H2.next) → s.H.next ≤ H2.next → Did base m s.H w stamp S i m' H2 w' := fun m' H2 w' g hn =>
        ⟨g.weaken fun b hb => Used.not_new hb hst, fun b l hb' => by
          rcases g.ext.2 b l hb' with h1 | ⟨_, h1⟩
          · exact (hu b l h1).mono (fun j hj => .inl hj) hn
          · exact Used.of_new h1 hst, hn⟩
      split at h
      · cases h
      · rename_i v H2 hc
        obtain ⟨e', hp, hr⟩ := stPut_inv h
        obtain ⟨rfl, rfl⟩ := Prod.mk.inj hr
        have hmeets := hC.meets hR hb hfresh gf g2 hc
        rw [g1]
        have fin : ∀ e w', CallPost base m s.H w (.ret v) H2 e w' → ∃ v', e = .returned v' ∧ K (a.put o.dst v') w' := fun e w' hp' => by
          cases e with
          | returned v' =>
            obtain ⟨v0, m', q1, q2, q3, q4, q5⟩ := hp'
            cases q1
            exact ⟨v', rfl, hK m' _ w' rfl (didc m' H2 w' q3 q5) (put_ok (he.mono q3.ext.1) hp q2) ⟨_, rfl⟩ (.inl ⟨rfl, put_defers _ _ _⟩)⟩
          | panicked chain => obtain ⟨_, _, _, q1, _⟩ := hp'; cases q1
          | outgrown => exact hp'.elim
        generalize (calleeRun f' args').run P w = res at hmeets
        cases res with
        | halt _ _ => exact hmeets.elim
        | ok nx w1 =>
          cases nx <;> try (exact hmeets.elim)
          case value v' =>
            obtain ⟨v'', q1, q2⟩ := fin (.returned v') w1 hmeets
            cases q1
            exact q2
          case enter g as =>
            refine Calls.mono hmeets fun e w' he' => ?_
            obtain ⟨v'', rfl, q2⟩ := fin _ _ he'
            exact q2
          case round l g ts x y =>
            refine ⟨hmeets.1, RoundIn.mono hmeets.2 fun e w' he' => ?_⟩
            obtain ⟨v'', rfl, q2⟩ := fin _ _ he'
            exact q2
      · rename_i v H2 hc
        obtain ⟨rfl, rfl⟩ := Prod.mk.inj (Option.some.inj h)
        have hmeets := hC.meets hR hb hfresh gf g2 hc
        rw [g1]
        have fin : ∀ e w', CallPost base m s.H w (.panic v) H2 e w' → ∃ chain, e = .panicked chain ∧ Q (.panic chain) a w' := fun e w' hp' => by
          cases e with
          | returned v' => obtain ⟨_, _, q1, _⟩ := hp'; cases q1
          | panicked chain =>
            obtain ⟨v0, v', m', q1, rfl, q2, q3, q4, q5⟩ := hp'
            cases q1
            exact ⟨_, rfl, hQ v m' v' w' rfl rfl rfl q2 (didc m' H2 w' q3 q5)⟩
          | outgrown => exact hp'.elim
        generalize (calleeRun f' args').run P w = res at hmeets
        cases res with
        | halt _ _ => exact hmeets.elim
        | ok nx w1 =>
          cases nx <;> try (exact hmeets.elim)
          case value v' =>
            obtain ⟨_, q1, _⟩ := fin (.returned v') w1 hmeets
            cases q1
          case enter g as =>
            refine Calls.mono hmeets fun e w' he' => ?_
            obtain ⟨chain, rfl, q2⟩ := fin _ _ he'
            exact q2
          case round l g ts x y =>
            refine ⟨hmeets.1, RoundIn.mono hmeets.2 fun e w' he' => ?_⟩
            obtain ⟨chain, rfl, q2⟩ := fin _ _ he'
            exact q2
end
end Go.Proofs.YtkgmpkoamicheaaGreatDoor.M
