/- The quick way's tables, out of a program. No program in it. -/
import Derived.Test.YtppgjkjdddanbaaDoorMza
namespace Go.Proofs.YtppgjkjdddanbaaDoor.M
section
variable (P : Program)
noncomputable def eqRow (t : TypeId) (d : TypeDesc) : Bool := !P.stoodInHeld t && !P.eqGuardType P.depth t && (match d with | .struct fs => fs.toList.all fun f => !(f.name == "_") | _ => true)
noncomputable def tyRow (eqs : List Nat) (t : TypeId) : Option TyRow :=
  match P.underlying t, P.info? t with
  | some d, some i => match (match i.zero with | some z => Nat.beq z.cells.size i.size | none => true) with
    | true => some ⟨d, i.size, i.bytes, i.zero, if memN t eqs then eqRow P t d else false⟩
    | false => none
  | _, _ => none
noncomputable def mkTab (eqs : List Nat) : Nat → Tab
  | 0 => .emp
  | n + 1 => match tyRow P eqs n with
    | some r => (mkTab eqs n).set n r
    | none => mkTab eqs n
noncomputable def fieldsIn (T : Tab) : Nat → Bool
  | 0 => true
  | n + 1 => (match T.get n with
    | some r => (match r.und with
      | .struct fs => fs.toList.all fun f => (T.get f.type).isSome
      | _ => true)
    | none => true) && fieldsIn T n
noncomputable def fnRow (f : FuncId) : Option Fn1 :=
  match P.funcs[f]? with
  | some F => match F.body with
    | some c => if F.name == "runtime.NumGoroutine" then none else some ⟨F.ntmps, F.results.toList, c⟩
    | none => none
  | none => none
noncomputable def mkFns : Nat → Tr Fn1
  | 0 => .emp
  | n + 1 => match fnRow P n with
    | some r => (mkFns n).set n r
    | none => mkFns n
variable {P}
theorem mkTab_get {eqs : List Nat} : ∀ {n t : Nat} {r : TyRow}, (mkTab P eqs n).get t = some r → t < n ∧ tyRow P eqs t = some r
  | 0, t, r, h => by rw [mkTab, Tr.get_e] at h; cases h
  | n + 1, t, r, h => by
    simp only [mkTab] at h
    split at h
    · rename_i r' hr'
      rw [Tr.get_set] at h
      by_cases ht : t = n
      · rw [if_pos ht] at h
        obtain rfl := Option.some.inj h
        subst ht
        exact ⟨Nat.lt_succ_self _, hr'⟩
      · rw [if_neg ht] at h
        obtain ⟨h1, h2⟩ := mkTab_get h
        exact ⟨Nat.lt_succ_of_lt h1, h2⟩
    · obtain ⟨h1, h2⟩ := mkTab_get h
      exact ⟨Nat.lt_succ_of_lt h1, h2⟩
theorem fieldsIn_get {T : Tab} : ∀ {n : Nat}, fieldsIn T n = true → ∀ t r fs, t < n → T.get t = some r → r.und = .struct fs → ∀ f ∈ fs.toList, ∃ rf, T.get f.type = some rf
  | 0, _, t, _, _, ht, _, _ => absurd ht (Nat.not_lt_zero _)
  | n + 1, h, t, r, fs, ht, hr, hu => by
    simp only [fieldsIn, Bool.and_eq_true] at h
    by_cases htn : t = n
    · subst htn
      have h1 := h.1
      rw [hr] at h1
      simp only [hu] at h1
      intro f hf
      have := List.all_eq_true.1 h1 f hf
      exact Option.isSome_iff_exists.1 this
    · exact fieldsIn_get h.2 t r fs (by omega) hr hu
theorem mkTab_ok {eqs : List Nat} {n : Nat} (h : fieldsIn (mkTab P eqs n) n = true) : TabOk P (mkTab P eqs n) := by
  intro t r hr
  obtain ⟨hlt, hrow⟩ := mkTab_get hr
  have hflds := fieldsIn_get h t r
  unfold tyRow at hrow
  split at hrow
  case h_2 => cases hrow
  rename_i d i hd hi
  split at hrow
  case h_2 => cases hrow
  rename_i hz
  obtain rfl := Option.some.inj hrow
  refine ⟨hd, ⟨i, hi, rfl, rfl, rfl⟩, fun he => ?_, fun fs hfs => hflds fs hlt hr hfs, fun z hzz => ?_⟩
  · simp only at he
    split at he
    · simp only [eqRow, Bool.and_eq_true, Bool.not_eq_true'] at he
      refine ⟨he.1.1, he.1.2, fun fs hfs f hf => ?_⟩
      have h2 := he.2
      simp only at hfs
      subst hfs
      have := List.all_eq_true.1 h2 f hf
      simpa using this
    · cases he
  · simp only at hzz
    rw [hzz] at hz
    simpa [Tr.beq_iff] using hz
theorem mkFns_get : ∀ {n f : Nat} {r : Fn1}, (mkFns P n).get f = some r → fnRow P f = some r
  | 0, t, r, h => by rw [mkFns, Tr.get_e] at h; cases h
  | n + 1, t, r, h => by
    simp only [mkFns] at h
    split at h
    · rename_i r' hr'
      rw [Tr.get_set] at h
      by_cases ht : t = n
      · rw [if_pos ht] at h
        obtain rfl := Option.some.inj h
        subst ht
        exact hr'
      · rw [if_neg ht] at h
        exact mkFns_get h
    · exact mkFns_get h
theorem mkFns_ok {n : Nat} : FnsOk P (mkFns P n) := by
  intro f fn h
  have := mkFns_get h
  unfold fnRow at this
  split at this
  case h_2 => cases this
  rename_i F hF
  split at this
  case h_2 => cases this
  rename_i c hc
  split at this
  · cases this
  rename_i hn
  obtain rfl := Option.some.inj this
  exact ⟨F, hF, hc, rfl, rfl, by simpa using hn⟩

/-- does the quick way say that a function of no arguments answers true? -/
noncomputable def says (Pr : Prg) (fuel n : Nat) (f : FuncId) : Bool :=
  match Pr.fns.get f with
  | some fn => match enterF Pr fuel (callN Pr fuel n) fn [] ⟨1, .emp⟩ with
    | some (.ret (.bool b), _) => b
    | _ => false
  | none => false
theorem calls_of_says (hm : P.follows .mixedOrders = true) {Pr : Prg} (hT : TabOk P Pr.tab) (hF : FnsOk P Pr.fns) (hL : ∀ f k, Pr.law.get f = some k → LawOk P f k) {fuel n : Nat} {f : FuncId} (h : says Pr fuel n f = true) (w : World) :
    Calls P f #[] w fun e w' => e = .returned (.bool true) ∧ RowKit.Below w.heap.size w w' := by
  unfold says at h
  split at h
  case h_2 => cases h
  rename_i fn hfn
  split at h
  case h_2 => cases h
  rename_i b H1 hr
  subst h
  exact calls_of_run hm hT hF hL hfn rfl hr (fun m v' hv => by cases hv; rfl) w
end
end Go.Proofs.YtppgjkjdddanbaaDoor.M
