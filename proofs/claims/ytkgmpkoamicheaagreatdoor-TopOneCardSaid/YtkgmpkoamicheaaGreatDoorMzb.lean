/- The quick way's tables, out of a program. No program in it. -/
import Derived.Test.YtkgmpkoamicheaaGreatDoorMza
namespace Go.Proofs.YtkgmpkoamicheaaGreatDoor.M
section
variable (P : Program)
noncomputable def eqRow (t : TypeId) (d : TypeDesc) : Bool := !P.stoodInHeld t && !P.eqGuardType P.depth t && (match d with | .struct fs => fs.toList.all fun f => !(f.name == "_") | _ => true)
noncomputable def tyRow (eqs : List Nat) (t : TypeId) : Option TyRow :=
  match P.underlying t, P.info? t with
  | some d, some i => match (match i.zero with | some z => Nat.beq z.cells.size i.size | none => true) with
    | true => some ⟨d, i.size, i.bytes, i.zero, if memN t eqs then eqRow P t d else false⟩
    | false => none
  | _, _ => none
/-- the types' rows, by their numbers -/
noncomputable def infoTr : Tr TypeInfo := Tr.emp.putAll 0 P.types.toList
noncomputable def undT (I : Tr TypeInfo) (i : TypeInfo) : Option TypeDesc :=
  match i.desc with
  | .named _ u => match I.get u with
    | some j => some j.desc
    | none => none
  | d => some d
noncomputable def tyRowL (I : Tr TypeInfo) (eqs : List Nat) (t : TypeId) (i : TypeInfo) : Option TyRow :=
  match undT I i with
  | some d => match (match i.zero with | some z => Nat.beq z.cells.size i.size | none => true) with
    | true => some ⟨d, i.size, i.bytes, i.zero, if memN t eqs then eqRow P t d else false⟩
    | false => none
  | none => none
noncomputable def tabL (I : Tr TypeInfo) (eqs : List Nat) : Nat → List TypeInfo → Tab
  | _, [] => .emp
  | t, i :: l => match tyRowL P I eqs t i with
    | some r => (tabL I eqs (t + 1) l).set t r
    | none => tabL I eqs (t + 1) l
noncomputable def mkTab (eqs : List Nat) (n : Nat) : Tab := tabL P (infoTr P) eqs 0 (P.types.toList.take n)
noncomputable def fieldsIn (T : Tab) : Nat → Bool
  | 0 => true
  | n + 1 => (match T.get n with
    | some r => (match r.und with
      | .struct fs => fs.toList.all fun f => (T.get f.type).isSome
      | _ => true)
    | none => true) && fieldsIn T n
noncomputable def fnRow (f : FuncId) : Option Fn1 :=
  match P.funcs[f]? with
  | some F => match F.body with
    | some c => if F.name == "runtime.NumGoroutine" then none else some ⟨F.ntmps, F.results.toList, c⟩
    | none => none
  | none => none
noncomputable def fnRowL (F : Func) : Option Fn1 :=
  match F.body with
  | some c => if F.name == "runtime.NumGoroutine" then none else some ⟨F.ntmps, F.results.toList, c⟩
  | none => none
noncomputable def fnsL : Nat → List Func → Tr Fn1
  | _, [] => .emp
  | k, F :: l => match fnRowL F with
    | some r => (fnsL (k + 1) l).set k r
    | none => fnsL (k + 1) l
noncomputable def mkFns (n : Nat) : Tr Fn1 := fnsL 0 (P.funcs.toList.take n)
variable {P}
theorem infoTr_get {t : TypeId} {i : TypeInfo} (h : (infoTr P).get t = some i) : P.info? t = some i := by
  unfold infoTr at h
  rw [Tr.get_putAll, if_pos (Nat.zero_le _), Nat.sub_zero] at h
  have h1 : P.types.toList[t]? = some i := by
    split at h
    · rename_i x hx; rw [← h]; exact hx
    · rw [Tr.get_e] at h; cases h
  have h2 : P.types[t]? = some i := by simpa using h1
  have h3 : t < P.types.size := (Array.getElem?_eq_some_iff.1 h2).1
  show Tables.info? P.toTables t = some i
  unfold Tables.info?
  rw [if_pos h3]; exact h2
theorem undT_ok {t : TypeId} {i : TypeInfo} {d : TypeDesc} (h : P.info? t = some i) (hd : undT (infoTr P) i = some d) : P.underlying t = some d := by
  unfold Program.underlying
  rw [h]
  unfold undT at hd
  obtain ⟨desc, size, bytes, al, zero, cmp, hp, ms⟩ := i
  cases desc <;> simp only at hd ⊢ <;> first | exact hd | skip
  split at hd
  · rename_i j hj
    rw [infoTr_get hj]; exact hd
  · cases hd
theorem tabL_get {I : Tr TypeInfo} {eqs : List Nat} : ∀ {l : List TypeInfo} {k t : Nat} {r : TyRow}, (tabL P I eqs k l).get t = some r → ∃ j i, t = k + j ∧ l[j]? = some i ∧ tyRowL P I eqs t i = some r
  | [], k, t, r, h => by rw [tabL, Tr.get_e] at h; cases h
  | i :: l, k, t, r, h => by
    have up : (tabL P I eqs (k + 1) l).get t = some r → ∃ j i', t = k + j ∧ (i :: l)[j]? = some i' ∧ tyRowL P I eqs t i' = some r := fun h => by
      obtain ⟨j, i', h1, h2, h3⟩ := tabL_get h
      exact ⟨j + 1, i', by omega, by simpa using h2, h3⟩
    simp only [tabL] at h
    split at h
    · rename_i r' hr'
      rw [Tr.get_set] at h
      by_cases ht : t = k
      · rw [if_pos ht] at h
        obtain rfl := Option.some.inj h
        subst ht
        exact ⟨0, i, rfl, rfl, hr'⟩
      · rw [if_neg ht] at h
        exact up h
    · exact up h
theorem fnsL_get : ∀ {l : List Func} {k f : Nat} {r : Fn1}, (fnsL k l).get f = some r → ∃ j F, f = k + j ∧ l[j]? = some F ∧ fnRowL F = some r
  | [], k, t, r, h => by rw [fnsL, Tr.get_e] at h; cases h
  | i :: l, k, t, r, h => by
    have up : (fnsL (k + 1) l).get t = some r → ∃ j F, t = k + j ∧ (i :: l)[j]? = some F ∧ fnRowL F = some r := fun h => by
      obtain ⟨j, i', h1, h2, h3⟩ := fnsL_get h
      exact ⟨j + 1, i', by omega, by simpa using h2, h3⟩
    simp only [fnsL] at h
    split at h
    · rename_i r' hr'
      rw [Tr.get_set] at h
      by_cases ht : t = k
      · rw [if_pos ht] at h
        obtain rfl := Option.some.inj h
        subst ht
        exact ⟨0, i, rfl, rfl, hr'⟩
      · rw [if_neg ht] at h
        exact up h
    · exact up h
theorem take_get {α : Type} {l : List α} {n j : Nat} {x : α} (h : (l.take n)[j]? = some x) : j < n ∧ l[j]? = some x := by
  rw [List.getElem?_take] at h
  split at h
  · rename_i q; exact ⟨q, h⟩
  · cases h
theorem mkTab_get {eqs : List Nat} {n t : Nat} {r : TyRow} (h : (mkTab P eqs n).get t = some r) : t < n ∧ tyRow P eqs t = some r := by
  obtain ⟨j, i, h1, h2, h3⟩ := tabL_get h
  rw [Nat.zero_add] at h1
  subst h1
  obtain ⟨hlt, hi⟩ := take_get h2
  have h4 : P.types[t]? = some i := by simpa using hi
  have h5 : t < P.types.size := (Array.getElem?_eq_some_iff.1 h4).1
  have h6 : P.info? t = some i := by
    show Tables.info? P.toTables t = some i
    unfold Tables.info?
    rw [if_pos h5]; exact h4
  refine ⟨hlt, ?_⟩
  unfold tyRowL at h3
  split at h3
  case h_2 => cases h3
  rename_i d hd
  unfold tyRow
  rw [undT_ok h6 hd, h6]
  exact h3
theorem fieldsIn_get {T : Tab} : ∀ {n : Nat}, fieldsIn T n = true → ∀ t r fs, t < n → T.get t = some r → r.und = .struct fs → ∀ f ∈ fs.toList, ∃ rf, T.get f.type = some rf
  | 0, _, t, _, _, ht, _, _ => absurd ht (Nat.not_lt_zero _)
  | n + 1, h, t, r, fs, ht, hr, hu => by
    simp only [fieldsIn, Bool.and_eq_true] at h
    by_cases htn : t = n
    · subst htn
      have h1 := h.1
      rw [hr] at h1
      simp only [hu] at h1
      intro f hf
      have := List.all_eq_true.1 h1 f hf
      exact Option.isSome_iff_exists.1 this
    · exact fieldsIn_get h.2 t r fs (by omega) hr hu
theorem mkTab_ok {eqs : List Nat} {n : Nat} (h : fieldsIn (mkTab P eqs n) n = true) : TabOk P (mkTab P eqs n) := by
  intro t r hr
  obtain ⟨hlt, hrow⟩ := mkTab_get hr
  have hflds := fieldsIn_get h t r
  unfold tyRow at hrow
  split at hrow
  case h_2 => cases hrow
  rename_i d i hd hi
  split at hrow
  case h_2 => cases hrow
  rename_i hz
  obtain rfl := Option.some.inj hrow
  refine ⟨hd, ⟨i, hi, rfl, rfl, rfl⟩, fun he => ?_, fun fs hfs => hflds fs hlt hr hfs, fun z hzz => ?_⟩
  · simp only at he
    split at he
    · simp only [eqRow, Bool.and_eq_true, Bool.not_eq_true'] at he
      refine ⟨he.1.1, he.1.2, fun fs hfs f hf => ?_⟩
      have h2 := he.2
      simp only at hfs
      subst hfs
      have := List.all_eq_true.1 h2 f hf
      simpa using this
    · cases he
  · simp only at hzz
    rw [hzz] at hz
    simpa [Tr.beq_iff] using hz
theorem mkFns_get {n f : Nat} {r : Fn1} (h : (mkFns P n).get f = some r) : fnRow P f = some r := by
  obtain ⟨j, F, h1, h2, h3⟩ := fnsL_get h
  rw [Nat.zero_add] at h1
  subst h1
  obtain ⟨hlt, hi⟩ := take_get h2
  have h4 : P.funcs[f]? = some F := by simpa using hi
  unfold fnRow
  rw [h4]
  exact h3
theorem mkFns_ok {n : Nat} : FnsOk P (mkFns P n) := by
  intro f fn h
  have := mkFns_get h
  unfold fnRow at this
  split at this
  case h_2 => cases this
  rename_i F hF
  split at this
  case h_2 => cases this
  rename_i c hc
  split at this
  · cases this
  rename_i hn
  obtain rfl := Option.some.inj this
  exact ⟨F, hF, hc, rfl, rfl, by simpa using hn⟩

/-- does the quick way say that a function of no arguments answers true? -/
noncomputable def says (Pr : Prg) (fuel n : Nat) (f : FuncId) : Bool :=
  match Pr.fns.get f with
  | some fn => match enterF Pr fuel (callN Pr fuel n) fn [] ⟨1, .emp⟩ with
    | some (.ret (.bool b), _) => b
    | _ => false
  | none => false
theorem calls_of_says (hm : P.follows .mixedOrders = true) {Pr : Prg} (hT : TabOk P Pr.tab) (hF : FnsOk P Pr.fns) (hL : ∀ f k, Pr.law.get f = some k → LawOk P f k) {fuel n : Nat} {f : FuncId} (h : says Pr fuel n f = true) (w : World) :
    Calls P f #[] w fun e w' => e = .returned (.bool true) ∧ RowKit.Below w.heap.size w w' := by
  unfold says at h
  split at h
  case h_2 => cases h
  rename_i fn hfn
  split at h
  case h_2 => cases h
  rename_i b H1 hr
  subst h
  exact calls_of_run hm hT hF hL hfn rfl hr (fun m v' hv => by cases hv; rfl) w
end
end Go.Proofs.YtkgmpkoamicheaaGreatDoor.M
