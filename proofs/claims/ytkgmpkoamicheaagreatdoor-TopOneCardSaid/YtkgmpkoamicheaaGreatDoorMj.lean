/- The quick way's answers are the program's: two operands; parts of values; addresses. No program in it. -/
import Derived.Test.YtkgmpkoamicheaaGreatDoorMi
namespace Go.Proofs.YtkgmpkoamicheaaGreatDoor.M
section
variable {P : Program} {T : Tab} {base : Nat} {m : Mu} {H : AHeap} {w : World}

theorem aeq_agg {n : Nat} {t : TypeId} {xs : Array Value} {y : Value} {b : Bool} (h : aeqCells T n t (.agg xs) y = some b) : ∃ r, T.get t = some r ∧ r.eq = true := by
  cases n with
  | zero => cases h
  | succ n =>
    simp only [aeqCells] at h
    split at h
    · cases h
    · rename_i r hr
      split at h <;> first
        | (split at h
           · rename_i hq; exact ⟨r, hr, hq⟩
           · cases h)
        | cases h
        | skip
      all_goals simp_all

theorem guard_off {op : BinOp} (h1 : op ≠ .eql) (h2 : op ≠ .neq) (t : TypeId) (xo yo : Operand) (x y : Value) : (eqGuard op t xo yo x y).run P w = .ok () w := by
  cases op <;> first | rfl | exact absurd rfl h1 | exact absurd rfl h2
theorem eqGuardIn_empty {t : TypeId} {ms : Array (String × TypeId)} (hu : (underlying t).run P w = .ok (.interface ms) w) (hms : ms.isEmpty = true) (d : Nat) : (Op.eqGuardIn (d + 1) t .nilIface .nilIface).run P w = .ok false w := by
  simp [Op.eqGuardIn, hu, hms]
theorem eqGuardIn_most {t : TypeId} {ms : Array (String × TypeId)} (hu : (underlying t).run P w = .ok (.interface ms) w) (hms : ms.isEmpty = true) : (Op.eqGuardIn Op.maxDepth t .nilIface .nilIface).run P w = .ok false w := by
  rw [show Op.maxDepth = 9999 + 1 from rfl]; exact eqGuardIn_empty hu hms 9999
theorem guard_ok (hT : TabOk P T) {op : BinOp} {n : Nat} {t : TypeId} {x y x' y' : Value} {b : Bool} (h : aeqCells T n t x y = some b) (hx : VR m x x') (hy : VR m y y') (xo yo : Operand) :
    (eqGuard op t xo yo x' y').run P w = .ok () w := by
  by_cases h1 : op = .eql ∨ op = .neq
  · cases n with
    | zero => cases h
    | succ n =>
      have h0 := h
      simp only [aeqCells] at h
      split at h
      · cases h
      · rename_i r hr
        have hu := hT.und hr w
        split at h <;> first
          | (exfalso; simp at h; done)
          | (rename_i ms e; cases hx; cases hy; split at h <;> first
             | (cases h; done)
             | (rename_i hms; rcases h1 with rfl | rfl <;> (have hgi := eqGuardIn_most (hu.trans (by rw [e])) hms; simp only [eqGuard]; split <;> simp [hgi])))
          | (cases hx <;> cases hy <;> rcases h1 with rfl | rfl <;> rfl)
          | (cases hx <;> rcases h1 with rfl | rfl <;> rfl)
          | (cases hx; cases hy
             obtain ⟨r, hr, hq⟩ := aeq_agg h0
             obtain ⟨_, q, _⟩ := (hT t r hr).2.2.1 hq
             rcases h1 with rfl | rfl <;> simp [eqGuard, q])
  · exact guard_off (fun e => h1 (.inl e)) (fun e => h1 (.inr e)) t xo yo x' y'
theorem guard_int (op : BinOp) (t : TypeId) (xo yo : Operand) (k k' : IntKind) (x y : Int) : (eqGuard op t xo yo (.int k x) (.int k' y)).run P w = .ok () w := by
  cases op <;> rfl
theorem guard_str (op : BinOp) (t : TypeId) (xo yo : Operand) (x y : ByteArray) : (eqGuard op t xo yo (.string x) (.string y)).run P w = .ok () w := by
  cases op <;> rfl

theorem abin_ok (hT : TabOk P T) {op : BinOp} {t : TypeId} {x y x' y' v : Value} (h : abin T op t x y = some v) (hx : VR m x x') (hy : VR m y y') (xo yo : Operand) :
    ∃ v', (do eqGuard op t xo yo x' y'; binOp op t x' y' : Sem Value).run P w = .ok v' w ∧ VR m v v' := by
  unfold abin at h
  split at h
  · cases hx; cases hy
    rename_i k a k' b
    refine ⟨v, ?_, ?_⟩
    · split at h
      · simp [guard_int, ashift_ok (w := w) (P := P) (.inl rfl) h t]
      · simp [guard_int, ashift_ok (w := w) (P := P) (.inr rfl) h t]
      · rename_i n1 n2
        split at h
        · rename_i hk
          subst hk
          simp [guard_int, aint_ok (w := w) (P := P) ⟨n1, n2⟩ h t]
        · cases h
    · split at h
      · unfold ashift at h; split at h; cases h; simp at h; subst h; exact .int _ _
      · unfold ashift at h; split at h; cases h; simp at h; subst h; exact .int _ _
      · split at h
        · unfold aint at h
          split at h
          all_goals first
            | (obtain rfl := Option.some.inj h; first | exact .int _ _ | exact .bool _)
            | (split at h
               · cases h
               · obtain rfl := Option.some.inj h; exact .int _ _)
            | cases h
        · cases h
  · cases hx; cases hy
    refine ⟨v, by simp [guard_str, astr_ok (w := w) (P := P) h t], ?_⟩
    unfold astr at h
    split at h
    all_goals first
      | (obtain rfl := Option.some.inj h; first | exact .string _ | exact .bool _)
      | (split at h
         · obtain rfl := Option.some.inj h; exact .string _
         · cases h)
      | cases h
  · rename_i hni hns
    have key : ∀ b, aeqCells T 20 t x y = some b → (eqGuard op t xo yo x' y').run P w = .ok () w ∧ (Op.equal t x' y').run P w = .ok b w := fun b hb => ⟨guard_ok hT hb hx hy xo yo, aeq_ok hT 20 Op.maxDepth t x y b x' y' (by decide) hb hx hy⟩
    have hbin : ∀ b, aeqCells T 20 t x y = some b → (binOp .eql t x' y').run P w = .ok (.bool b) w ∧ (binOp .neq t x' y').run P w = .ok (.bool !b) w := by
      intro b hb
      have he := (key b hb).2
      simp only [aeqCells] at hb
      split at hb
      · cases hb
      · split at hb <;> first
          | (exfalso; simp at hb; done)
          | (cases hx; cases hy; exact absurd rfl (hni _ _ _ _ rfl))
          | (cases hx; cases hy; exact absurd rfl (hns _ _ rfl))
          | (cases hx <;> cases hy <;> (constructor <;> simp [binOp, he]))
    split at h
    · cases hb : aeqCells T 20 t x y with
      | none => rw [hb] at h; cases h
      | some b =>
        rw [hb] at h
        obtain rfl := Option.some.inj h
        exact ⟨_, by simp [(key b hb).1, (hbin b hb).1], .bool _⟩
    · cases hb : aeqCells T 20 t x y with
      | none => rw [hb] at h; cases h
      | some b =>
        rw [hb] at h
        obtain rfl := Option.some.inj h
        exact ⟨_, by simp [(key b hb).1, (hbin b hb).2], .bool _⟩
    · cases h
theorem abinG_ok (hT : TabOk P T) {op : BinOp} {t : TypeId} {x y x' y' v : Value} {xo yo : Operand} (h : abinG T op t (isConst xo || isConst yo) x y = some v) (hx : VR m x x') (hy : VR m y y') :
    ∃ v', (do eqGuard op t xo yo x' y'; binOp op t x' y' : Sem Value).run P w = .ok v' w ∧ VR m v v' := by
  unfold abinG at h
  split at h
  · rename_i hc
    cases hx; cases hy
    split at h
    case h_2 => cases h
    rename_i r hr
    have hu := hT.und hr w
    have hg : ∀ op, (eqGuard op t xo yo .nilIface .nilIface).run P w = .ok () w := fun op => by
      cases xo <;> cases yo <;> first
        | (exfalso; simp [isConst] at hc; done)
        | (cases op <;> simp [eqGuard])
    have he : ∀ ms, r.und = .interface ms → (Op.equal t .nilIface .nilIface).run P w = .ok true w := fun ms e => by
      have gen : ∀ d, (Op.equalIn (d + 1) t .nilIface .nilIface).run P w = .ok true w := fun d => by simp [Op.equalIn, hu, e]
      exact gen 9999
    split at h
    · rename_i ms e
      obtain rfl := Option.some.inj h
      exact ⟨.bool true, by simp [hg, binOp, he ms e], .bool _⟩
    · rename_i ms e
      obtain rfl := Option.some.inj h
      exact ⟨.bool false, by simp [hg, binOp, he ms e], .bool _⟩
    · cases h
  · exact abin_ok hT h hx hy xo yo
end
end Go.Proofs.YtkgmpkoamicheaaGreatDoor.M
