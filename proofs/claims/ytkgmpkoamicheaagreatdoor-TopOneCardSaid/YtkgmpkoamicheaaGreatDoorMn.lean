/- The quick way's answers are the program's: what makes memory. No program in it. -/
import Derived.Test.YtkgmpkoamicheaaGreatDoorMm
namespace Go.Proofs.YtkgmpkoamicheaaGreatDoor.M
section
variable {P : Program} {T : Tab} {base : Nat} {m : Mu} {H : AHeap} {w : World}
/-- an operation that yields a value, and may make one block -/
def Mem (P : Program) (base : Nat) (m : Mu) (H : AHeap) (w : World) (s : Sem Value) (v : Value) (H1 : AHeap) (id : Nat) : Prop :=
  ∃ m' w' v', s.run P w = .ok v' w' ∧ VR m' v v' ∧ Stp base m H w m' H1 w' (· = id)

theorem xAlloc_ok (hT : TabOk P T) (hR : R base m H w) (hb : base ≤ w.heap.size) {id : Nat} (hid : m id = none) {e : TypeId} {o : Out} {H1 : AHeap} (h : xAlloc T id H e = some (o, H1)) :
    ∃ v, o = .val v ∧ Mem P base m H w (Instr.alloc e true (.tuple #[])) v H1 id := by
  unfold xAlloc at h
  split at h
  case h_2 => cases h
  rename_i r hr
  split at h
  case h_2 => cases h
  rename_i z hz
  split at h
  case isFalse => cases h
  rename_i hp
  unfold ptrTo at h
  split at h
  case h_2 => cases h
  rename_i H' ha
  obtain ⟨rfl, rfl⟩ := Prod.mk.inj (Option.some.inj h)
  obtain ⟨w', h1, h2⟩ := anew_ok (P := P) hR hb hid (plainV_VR m hp) ha
  have hzr := hT.zero hr hz w
  exact ⟨_, rfl, _, w', _, by simp [Instr.alloc, hzr, h1]; rfl, by simpa using VR.ptr (o := 0) (Mu.put_at m id ⟨w.heap.size, 0, none⟩), h2⟩
theorem xBox_ok (hR : R base m H w) (hb : base ≤ w.heap.size) {id : Nat} (hid : m id = none) {e : TypeId} {x x' : Value} {o : Out} {H1 : AHeap} (h : xBox id H e (some x) = some (o, H1)) (hx : VR m x x') :
    ∃ v, o = .val v ∧ Mem P base m H w (Instr.box e x') v H1 id := by
  simp only [xBox] at h
  unfold ptrTo at h
  split at h
  case h_2 => cases h
  rename_i H' ha
  obtain ⟨rfl, rfl⟩ := Prod.mk.inj (Option.some.inj h)
  obtain ⟨w', h1, h2⟩ := anew_ok (P := P) hR hb hid hx ha
  exact ⟨_, rfl, _, w', _, by simp [Instr.box, h1]; rfl, by simpa using VR.ptr (o := 0) (Mu.put_at m id ⟨w.heap.size, 0, none⟩), h2⟩

/-! parts laid into a row of cells -/
theorem laid_at : ∀ (l : List Value) (cs : Array Value) (off j : Nat), off + j + l.length ≤ cs.size →
    ((l.zipIdx j).foldl (fun cs x => cs.setIfInBounds (off + x.2) x.1) cs).size = cs.size ∧
    ∀ i : Nat, ((l.zipIdx j).foldl (fun cs x => cs.setIfInBounds (off + x.2) x.1) cs)[i]? = if off + j ≤ i ∧ i < off + j + l.length then l[i - (off + j)]? else cs[i]?
  | [], cs, off, j, h => ⟨rfl, fun i => by
      have : ¬ (off + j ≤ i ∧ i < off + j + ([] : List Value).length) := by simp
      rw [if_neg this]
      rfl⟩
  | v :: l, cs, off, j, h => by
    simp only [List.zipIdx_cons, List.foldl_cons]
    have h' : off + (j + 1) + l.length ≤ (cs.setIfInBounds (off + j) v).size := by simp at h ⊢; omega
    obtain ⟨h1, h2⟩ := laid_at l (cs.setIfInBounds (off + j) v) off (j + 1) h'
    refine ⟨by rw [h1]; simp, fun i => ?_⟩
    rw [h2 i]
    by_cases e1 : i = off + j
    · subst e1
      rw [if_neg (by omega), if_pos (by simp)]
      simp at h
      simp [show off + j < cs.size by omega]
    · by_cases e2 : off + (j + 1) ≤ i ∧ i < off + (j + 1) + l.length
      · rw [if_pos e2, if_pos (by simp; omega), show i - (off + j) = (i - (off + (j + 1))) + 1 by omega]
        simp
      · rw [if_neg e2, if_neg (by simp; omega), Array.getElem?_setIfInBounds_ne (Ne.symm e1)]
theorem VRs.of_at {x y : List Value} (hl : x.length = y.length) (h : ∀ (i : Nat) (v : Value), x[i]? = some v → ∃ v' : Value, y[i]? = some v' ∧ VR m v v') : VRs m x y := ⟨hl, h⟩

theorem fill_ok {pl : Nat → Option (Nat × Nat)} : ∀ {ps : List (Nat × Value)} {ps' : List (Nat × Value)} {cells out : List Value} {cells' : Array Value}, VRs m cells cells'.toList → ps.length = ps'.length →
    (∀ (i : Nat) p, ps[i]? = some p → ∃ v', ps'[i]? = some (p.1, v') ∧ VR m p.2 v') → fillL pl cells ps = some out → ∃ out', Instr.fill pl cells' ps' = some out' ∧ VRs m out out'.toList := by
  intro ps
  induction ps with
  | nil =>
    intro ps' cells out cells' hc hl _ h
    obtain rfl := Option.some.inj h
    have : ps' = [] := List.eq_nil_of_length_eq_zero hl.symm
    subst this
    exact ⟨cells', rfl, hc⟩
  | cons p ps ih =>
    intro ps' cells out cells' hc hl hp h
    obtain ⟨i, v⟩ := p
    cases ps' with
    | nil => simp at hl
    | cons p' ps' =>
      obtain ⟨v', h1, h2⟩ := hp 0 (i, v) rfl
      simp at h1
      subst h1
      simp only [fillL] at h
      split at h
      · cases h
      rename_i off size hpl
      split at h
      case isFalse => cases h
      rename_i hck
      simp only [Bool.and_eq_true, beq_iff_eq, decide_eq_true_eq] at hck
      have hcl := h2.cellsL
      have hlen : v'.cells.size = size := by have := hcl.1; simp at this; omega
      have hcs : cells.length = cells'.size := by have := hc.1; simpa using this
      have hoff : off + v'.cells.size ≤ cells'.size := by have := hcl.1; simp at this; omega
      obtain ⟨g1, g2⟩ := laid_at v'.cells.toList cells' off 0 (by simpa using hoff)
      have hnew : VRs m (cells.take off ++ cellsL v ++ cells.drop (off + (cellsL v).length)) ((v'.cells.toList.zipIdx 0).foldl (fun cs x => cs.setIfInBounds (off + x.2) x.1) cells').toList := by
        have hL := hcl.1
        have hL2 : v'.cells.toList.length = v'.cells.size := by simp
        refine ⟨?_, fun q u hq => ?_⟩
        · simp [g1]; omega
        · have hq' : (((v'.cells.toList.zipIdx 0).foldl (fun cs x => cs.setIfInBounds (off + x.2) x.1) cells').toList)[q]? = ((v'.cells.toList.zipIdx 0).foldl (fun cs x => cs.setIfInBounds (off + x.2) x.1) cells')[q]? := by simp
          rw [hq', g2 q]
          by_cases e1 : q < off
          · rw [if_neg (by omega)]
            have : cells[q]? = some u := by
              rw [List.append_assoc, List.getElem?_append_left (by simp; omega), List.getElem?_take] at hq
              simpa [e1] using hq
            obtain ⟨u', a, b⟩ := hc.2 q u this
            exact ⟨u', by simpa using a, b⟩
          · by_cases e2 : q < off + (cellsL v).length
            · rw [if_pos (by omega)]
              have : (cellsL v)[q - off]? = some u := by
                rw [List.append_assoc, List.getElem?_append_right (by simp; omega), List.getElem?_append_left (by simp; omega)] at hq
                have hmin : min off cells.length = off := by omega
                simpa [hmin] using hq
              obtain ⟨u', a, b⟩ := hcl.2 _ u this
              exact ⟨u', by simpa using a, b⟩
            · rw [if_neg (by omega)]
              have : cells[q]? = some u := by
                rw [List.getElem?_append_right (by simp; omega), List.getElem?_drop] at hq
                have hmin : min off cells.length = off := by omega
                simp only [List.length_append, List.length_take, hmin] at hq
                rwa [show off + (cellsL v).length + (q - (off + (cellsL v).length)) = q by omega] at hq
              obtain ⟨u', a, b⟩ := hc.2 q u this
              exact ⟨u', by simpa using a, b⟩
      obtain ⟨out', k1, k2⟩ := ih hnew (by simpa using hl) (fun j p hj => hp (j + 1) p (by simpa using hj)) h
      refine ⟨out', ?_, k2⟩
      simp only [Instr.fill, hpl]
      rw [if_neg (by simp; omega)]
      have hfold : Array.foldl (fun cs x => cs.setIfInBounds (off + x.snd) x.fst) cells' v'.cells.zipIdx = List.foldl (fun cs x => cs.setIfInBounds (off + x.2) x.1) cells' (v'.cells.toList.zipIdx 0) := by
        rw [← Array.foldl_toList]
        simp
      rw [hfold]
      exact k1
theorem evParts_ok {nt : Nat} {env : AEnv} {a : Act} (he : ERel m nt env a) : ∀ {l : List (Nat × Operand)} {vs : List (Nat × Value)}, evParts env l = some vs → vs.length = (l.map fun (i, x) => (i, a.eval x)).length ∧
    ∀ (i : Nat) p, vs[i]? = some p → ∃ v', (l.map fun (i, x) => (i, a.eval x))[i]? = some (p.1, v') ∧ VR m p.2 v'
  | [], vs, h => by obtain rfl := Option.some.inj h; exact ⟨rfl, by simp⟩
  | (q, x) :: l, vs, h => by
    simp only [evParts] at h
    split at h
    · rename_i v us hv hus
      obtain rfl := Option.some.inj h
      obtain ⟨h1, h2⟩ := evParts_ok he hus
      refine ⟨by simpa using h1, fun i p hp => ?_⟩
      cases i with
      | zero => simp at hp; subst hp; exact ⟨a.eval x, rfl, ev_ok he hv⟩
      | succ i => simpa using h2 i p (by simpa using hp)
    · cases h

theorem mapM_run {α β : Type} {f : α → Sem β} {g : α → β} : ∀ (l : List α), (∀ a ∈ l, (f a).run P w = .ok (g a) w) → (l.mapM f).run P w = .ok (l.map g) w
  | [], _ => by simp
  | a :: l, h => by
    have h1 := h a List.mem_cons_self
    have h2 := mapM_run l fun b hb => h b (List.mem_cons_of_mem _ hb)
    simp [List.mapM_cons, h1, h2]
theorem mapM_arr {α β : Type} {f : α → Sem β} {g : α → β} (xs : Array α) (h : ∀ a ∈ xs.toList, (f a).run P w = .ok (g a) w) : (xs.mapM f).run P w = .ok (xs.map g) w := by
  rw [Array.mapM_eq_mapM_toList]
  have := mapM_run xs.toList h
  simp only [Sem.run_map, this, Result.andThen_ok]
  congr 1
  apply Array.ext'
  simp

theorem xBuild_ok (hT : TabOk P T) {t : TypeId} {ps : List (Nat × Value)} {ps' : Array (Nat × Value)} {v : Value} (h : xBuild T t ps = some v) (hl : ps.length = ps'.toList.length)
    (hp : ∀ (i : Nat) p, ps[i]? = some p → ∃ v', ps'.toList[i]? = some (p.1, v') ∧ VR m p.2 v') : Yld P m w (Instr.build t ps') v := by
  unfold xBuild at h
  split at h
  · cases h
  rename_i r hr
  have hu := hT.und hr w
  split at h
  · cases h
  rename_i z hz
  have hzr := hT.zero hr hz w
  split at h
  case isFalse => cases h
  rename_i hpl
  have hzc : VRs m (cellsL z) z.cells.toList := (plainV_VR m hpl).cellsL
  split at h
  · rename_i fs hfs
    unfold aggOf at h
    split at h
    case h_2 => cases h
    rename_i out ho
    obtain rfl := Option.some.inj h
    have hall := (hT t r hr).2.2.2.1 fs hfs
    have hsz : ∀ f ∈ fs.toList, ∃ rf, T.get f.type = some rf := hall
    have hplaces : (fs.mapM fun f => do pure (f.offset, ← sizeOf f.type) : Sem (Array (Nat × Nat))).run P w = .ok (fs.map fun f => (f.offset, ((T.get f.type).map (·.size)).getD 0)) w := by
      refine mapM_arr fs fun f hf => ?_
      obtain ⟨rf, hrf⟩ := hsz f hf
      simp [hT.size hrf w, hrf]
    have hpe : placeS T fs.toList = fun i => (fs.map fun f => (f.offset, ((T.get f.type).map (·.size)).getD 0))[i]? := by
      funext i
      unfold placeS
      rw [Array.getElem?_map]
      cases hi : fs[i]? with
      | none => simp [hi]
      | some f =>
        obtain ⟨rf, hrf⟩ := hsz f (by simpa using Array.mem_of_getElem? hi)
        simp [hi, hrf]
    rw [hpe] at ho
    obtain ⟨out', h1, h2⟩ := fill_ok hzc hl hp ho
    refine ⟨.agg out', ?_, VR.agg' (x := ⟨out⟩) h2⟩
    simp only [Instr.build, Sem.run_bind, hzr, Result.andThen_ok, hu, hfs, hplaces, h1]
    rfl
  · rename_i nn e he
    split at h
    case h_2 => cases h
    rename_i re hre
    have hs := hT.size hre w
    unfold aggOf at h
    split at h
    case h_2 => cases h
    rename_i out ho
    obtain rfl := Option.some.inj h
    obtain ⟨out', h1, h2⟩ := fill_ok hzc hl hp ho
    refine ⟨.agg out', ?_, VR.agg' (x := ⟨out⟩) h2⟩
    simp only [Instr.build, Sem.run_bind, hzr, Result.andThen_ok, hu, he, hs, h1]
    rfl
  · cases h

/-- a zero's cells, n times -/
theorem repCells_length (n : Nat) (z : List Value) : (repCells n z).length = n * z.length := by
  induction n with
  | zero => simp [repCells]
  | succ n ih => simp [repCells, ih, Nat.succ_mul]; omega
theorem repCells_at (z : List Value) (hz : 0 < z.length) : ∀ (n i : Nat), i < n * z.length → (repCells n z)[i]? = z[i % z.length]?
  | 0, i, h => by simp at h
  | n + 1, i, h => by
    simp only [repCells]
    by_cases hi : i < z.length
    · rw [List.getElem?_append_left hi, Nat.mod_eq_of_lt hi]
    · rw [List.getElem?_append_right (by omega), repCells_at z hz n (i - z.length) (by rw [Nat.succ_mul] at h; omega)]
      have : i = i - z.length + z.length := by omega
      rw [show i % z.length = (i - z.length) % z.length by rw [this]; simp]
theorem rep_VRs {z z' : Array Value} (h : VRs m z.toList z'.toList) (n : Nat) : VRs m (repCells n z.toList) ((Array.range (n * z'.size)).map (z'[· % z'.size]!)).toList := by
  have hl : z.size = z'.size := by have := h.1; simpa using this
  refine ⟨by rw [repCells_length]; simp [hl], fun i v hv => ?_⟩
  have hi : i < n * z.toList.length := by
    have := (List.getElem?_eq_some_iff.1 hv).1
    rwa [repCells_length] at this
  have hz : 0 < z.toList.length := by
    rcases Nat.eq_zero_or_pos z.toList.length with h0 | h0
    · rw [h0] at hi; simp at hi
    · exact h0
  rw [repCells_at _ hz _ _ hi] at hv
  obtain ⟨v', h1, h2⟩ := h.2 _ v hv
  refine ⟨v', ?_, h2⟩
  have hz' : z.toList.length = z'.size := by simpa using hl
  rw [hz'] at h1 hi hz
  have hlt : i % z'.size < z'.size := Nat.mod_lt _ hz
  have hv' : z'[i % z'.size] = v' := by simpa [hlt] using h1
  simp [hi, getElem!_pos z' (i % z'.size) hlt, hv']
end
end Go.Proofs.YtkgmpkoamicheaaGreatDoor.M
