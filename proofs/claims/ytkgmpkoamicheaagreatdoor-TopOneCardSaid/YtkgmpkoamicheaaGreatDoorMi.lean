/- The quick way's answers are the program's: equality. No program in it. -/
import Derived.Test.YtkgmpkoamicheaaGreatDoorMh
namespace Go.Proofs.YtkgmpkoamicheaaGreatDoor.M
section
variable {P : Program} {T : Tab} {m : Mu} {w : World}

theorem part_ok (hT : TabOk P T) {t : TypeId} {r : TyRow} (hr : T.get t = some r) {xs xs' : Array Value} (h : VRs m xs.toList xs'.toList) {o : Nat} {v : Value}
    (hv : mkAgg r.und ((xs.toList.drop o).take r.size) = some v) : ∃ v', (part t xs' o).run P w = .ok v' w ∧ VR m v v' := by
  unfold mkAgg at hv
  have ha := hT.agg hr w
  have hs := hT.size hr w
  split at hv
  · rename_i hg
    obtain rfl := Option.some.inj hv
    refine ⟨.agg (xs'.extract o (o + r.size)), by simp [part, ha, hg, hs], VR.agg' ?_⟩
    have := (h.drop o).take r.size
    simpa [Array.toList_extract] using this
  · rename_i hg
    split at hv
    · rename_i u hu
      obtain rfl := Option.some.inj hv
      have h1 : xs.toList[o]? = some u := by
        have : ((xs.toList.drop o).take r.size)[0]? = some u := by rw [hu]; rfl
        rw [List.getElem?_take] at this
        split at this
        · simpa using this
        · cases this
      obtain ⟨v', h2, h3⟩ := h.2 o u h1
      have h2' : xs'[o]? = some v' := by simpa using h2
      exact ⟨v', by simp [part, ha, hg, h2'], h3⟩
    · cases hv

theorem fields_ok (hT : TabOk P T) {rec : TypeId → Value → Value → Option Bool} {D : Nat}
    (hrec : ∀ t x y b x' y', rec t x y = some b → VR m x x' → VR m y y' → (Op.equalIn D t x' y').run P w = .ok b w) {xs ys xs' ys' : Array Value} (hx : VRs m xs.toList xs'.toList) (hy : VRs m ys.toList ys'.toList) :
    ∀ (fs : List Field) {b : Bool}, (∀ f ∈ fs, f.name ≠ "_") → aeqFields T rec fs xs.toList ys.toList = some b →
      (do
        for f in fs do
          if f.name ≠ "_" then
            if !(← Op.equalIn D f.type (← part f.type xs' f.offset) (← part f.type ys' f.offset)) then return false
        pure true : Sem Bool).run P w = .ok b w := by
  intro fs
  induction fs with
  | nil =>
    intro b _ h
    obtain rfl := Option.some.inj h
    simp
  | cons f fs ih =>
    intro b hn h
    simp only [aeqFields] at h
    split at h
    · cases h
    · rename_i r hr
      split at h
      · rename_i u v hu hv
        obtain ⟨u', h1, h2⟩ := part_ok (w := w) hT hr hx hu
        obtain ⟨v', h3, h4⟩ := part_ok (w := w) hT hr hy hv
        have hnm := hn f List.mem_cons_self
        split at h
        · rename_i hb
          have h5 := hrec _ _ _ _ _ _ hb h2 h4
          have := ih (fun g hg => hn g (List.mem_cons_of_mem _ hg)) h
          simp at this
          simp [hnm, h1, h3, h5, this]
        · rename_i hb
          have h5 := hrec _ _ _ _ _ _ hb h2 h4
          obtain rfl := Option.some.inj h
          simp [hnm, h1, h3, h5]
        · cases h
      · cases h

set_option maxHeartbeats 1000000 in
theorem aeq_ok (hT : TabOk P T) : ∀ (d D : Nat) (t : TypeId) (x y : Value) (b : Bool) (x' y' : Value), d ≤ D → aeqCells T d t x y = some b → VR m x x' → VR m y y' → (Op.equalIn D t x' y').run P w = .ok b w := by
  intro d
  induction d with
  | zero => intro D t x y b x' y' _ h; cases h
  | succ d ih =>
    intro D t x y b x' y' hD h hx hy
    obtain ⟨D, rfl⟩ : ∃ k, D = k + 1 := ⟨D - 1, by omega⟩
    simp only [aeqCells] at h
    split at h
    · cases h
    · rename_i r hr
      have hu := hT.und hr w
      split at h
      · rename_i e; cases hx; cases hy; obtain rfl := Option.some.inj h; simp [Op.equalIn, hu, e]
      · rename_i e; cases hx; cases hy
        split at h
        · rename_i hk; obtain rfl := Option.some.inj h; simp [Op.equalIn, hu, e, hk]
        · cases h
      · rename_i e; cases hx; cases hy; obtain rfl := Option.some.inj h; simp [Op.equalIn, hu, e, str_beq]
      · rename_i e; cases hx; obtain rfl := Option.some.inj h; cases hy <;> simp [Op.equalIn, hu, e]
      · rename_i e; cases hx; cases hy; obtain rfl := Option.some.inj h; simp [Op.equalIn, hu, e]
      · rename_i e; cases hx; obtain rfl := Option.some.inj h; cases hy <;> simp [Op.equalIn, hu, e]
      · rename_i e; cases hx <;> cases hy <;> obtain rfl := Option.some.inj h <;> simp [Op.equalIn, hu, e]
      · rename_i e; cases hx; obtain rfl := Option.some.inj h; cases hy <;> simp [Op.equalIn, hu, e]
      · rename_i e; cases hx; cases hy; obtain rfl := Option.some.inj h; simp [Op.equalIn, hu, e]
      · rename_i e; cases hx; cases hy; obtain rfl := Option.some.inj h; simp [Op.equalIn, hu, e]
      · rename_i e; cases hx; obtain rfl := Option.some.inj h; cases hy <;> simp [Op.equalIn, hu, e]
      · rename_i e; cases hy; obtain rfl := Option.some.inj h; cases hx <;> simp [Op.equalIn, hu, e]
      · rename_i e; cases hx; cases hy
        split at h
        · obtain rfl := Option.some.inj h; simp [Op.equalIn, hu, e]
        · cases h
      · rename_i e; cases hx; cases hy; obtain rfl := Option.some.inj h; simp [Op.equalIn, hu, e]
      · rename_i e; cases hx; cases hy; obtain rfl := Option.some.inj h; simp [Op.equalIn, hu, e]
      · rename_i fs xs ys e
        split at h
        · rename_i hq
          cases hx; rename_i xs' g1 g2
          cases hy; rename_i ys' g3 g4
          obtain ⟨q1, q2, q3⟩ := (hT t r hr).2.2.1 hq
          have := fields_ok (w := w) hT (rec := aeqCells T d) (D := D) (fun t x y b x' y' hb hx hy => ih D t x y b x' y' (by omega) hb hx hy) (VRs.of_arr g1 g2) (VRs.of_arr g3 g4) fs.toList (q3 fs e) h
          simp [Op.equalIn, hu, e, q1]
          simpa using this
        · cases h
      · cases h
end
end Go.Proofs.YtkgmpkoamicheaaGreatDoor.M
