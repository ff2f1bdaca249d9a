/- The quick way's answers are the program's: slices of slices, texts, arrays; greater and smaller. No program in it. -/
import Derived.Test.YtkgmpkoamicheaaGreatDoorMl
namespace Go.Proofs.YtkgmpkoamicheaaGreatDoor.M
section
variable {P : Program} {T : Tab} {base : Nat} {m : Mu} {H : AHeap} {w : World}

def VRo (m : Mu) (x y : Option Value) : Prop := (x = none ∧ y = none) ∨ ∃ v v', x = some v ∧ y = some v' ∧ VR m v v'
theorem bnd_some {y : Nat} {v v' : Value} {d i : Nat} (h : bnd y (some v) d = some i) (hv : VR m v v') (code : BoundsCode) {y' : Nat} (hy : y ≤ y') : (Instr.sliceBound v' y' code).run P w = .ok i w ∧ i ≤ y := by
  unfold bnd at h
  split at h
  · cases ‹_ = none›
  · rename_i k n e
    obtain rfl := Option.some.inj e
    cases hv
    split at h
    · rename_i hc
      obtain rfl := Option.some.inj h
      refine ⟨?_, by omega⟩
      have : 0 ≤ n ∧ n ≤ (y' : Int) := ⟨hc.1, by omega⟩
      simp [Instr.sliceBound, asIntOf, this]
    · cases h
  · cases h
theorem bnd_none {y d i : Nat} (h : bnd y none d = some i) : i = d := by
  simp [bnd] at h; exact h.symm

/-- the three bounds; 'y' is how far the quick way sees -/
theorem bounds_ok {isS : Bool} {len cap y : Nat} {lo hi mx lo' hi' mx' : Option Value} {mm h l : Nat} (hlo : VRo m lo lo') (hhi : VRo m hi hi') (hmx : VRo m mx mx') (hy : y ≤ cap) (hmc : mx.isSome = true → y = cap)
    (h1 : bnd cap mx cap = some mm) (h2 : bnd (if mx.isSome then mm else y) hi len = some h) (h3 : bnd h lo 0 = some l) (hm3 : mx.isSome = true → hi.isSome = true) :
    (Instr.sliceBounds isS len cap lo' hi' mx').run P w = .ok (l, h, mm) w ∧ (hi.isSome = true → h ≤ mm) ∧ (hi = none → h = len) ∧ (lo.isSome = true → l ≤ h) ∧ (lo = none → l = 0) ∧ (mx = none → mm = cap) := by
  have hl : ∀ code, ((match lo' with
      | some v => Instr.sliceBound v h code
      | none => pure 0 : Sem Nat)).run P w = .ok l w := fun code => by
    rcases hlo with ⟨rfl, rfl⟩ | ⟨v, v', rfl, rfl, hv⟩
    · rw [bnd_none h3]; rfl
    · exact (bnd_some h3 hv code (Nat.le_refl _)).1
  have hll : (lo.isSome = true → l ≤ h) ∧ (lo = none → l = 0) := by
    rcases hlo with ⟨rfl, rfl⟩ | ⟨v, v', rfl, rfl, hv⟩
    · exact ⟨by simp, fun _ => bnd_none h3⟩
    · exact ⟨fun _ => (bnd_some (P := P) (w := w) h3 hv .index (Nat.le_refl _)).2, by simp⟩
  rcases hmx with ⟨rfl, rfl⟩ | ⟨q, q', rfl, rfl, hq⟩
  · have hmm := bnd_none h1
    subst hmm
    rcases hhi with ⟨rfl, rfl⟩ | ⟨v, v', rfl, rfl, hv⟩
    · have hh := bnd_none h2
      subst hh
      refine ⟨?_, by simp, by simp, hll.1, hll.2, by simp⟩
      have := hl .sliceB
      rcases hlo with ⟨rfl, rfl⟩ | ⟨u, u', rfl, rfl, hu⟩
      · simp at this
        simp [Instr.sliceBounds, this]
      · simp at this
        simp [Instr.sliceBounds, this]
    · simp only [Option.isSome_none, Bool.false_eq_true, if_false] at h2
      have hb := fun code => bnd_some (P := P) (w := w) h2 hv code hy
      refine ⟨?_, fun _ => Nat.le_trans (hb .index).2 hy, by simp, hll.1, hll.2, by simp⟩
      have := hl .sliceB
      have hb1 := (hb .sliceAcap).1
      have hb2 := (hb .sliceAlen).1
      rcases hlo with ⟨rfl, rfl⟩ | ⟨u, u', rfl, rfl, hu⟩
      · simp at this
        cases isS <;> simp [Instr.sliceBounds, this, hb1, hb2]
      · simp at this
        cases isS <;> simp [Instr.sliceBounds, this, hb1, hb2]
  · have hyc := hmc rfl
    have hb := fun code => bnd_some (P := P) (w := w) h1 hq code (Nat.le_refl _)
    simp only [Option.isSome_some, if_true] at h2
    rcases hhi with ⟨rfl, rfl⟩ | ⟨v, v', rfl, rfl, hv⟩
    · exact absurd (hm3 rfl) (by simp)
    · have hc := fun code => bnd_some (P := P) (w := w) h2 hv code (Nat.le_refl _)
      refine ⟨?_, fun _ => (hc .index).2, by simp, hll.1, hll.2, by simp⟩
      have := hl .slice3C
      have hb1 := (hb .slice3Acap).1
      have hb2 := (hb .slice3Alen).1
      have hc1 := (hc .slice3B).1
      rcases hlo with ⟨rfl, rfl⟩ | ⟨u, u', rfl, rfl, hu⟩
      · simp at this
        cases isS <;> simp [Instr.sliceBounds, this, hb1, hb2, hc1]
      · simp at this
        cases isS <;> simp [Instr.sliceBounds, this, hb1, hb2, hc1]

theorem extract_list (s : ByteArray) (l h : Nat) : s.extract l h = ⟨⟨(s.data.toList.take h).drop l⟩⟩ := by
  apply ByteArray.ext
  rw [ByteArray.data_extract]
  apply Array.ext'
  rw [Array.toList_extract]
  simp [List.extract_eq_take_drop, List.drop_take]
theorem aslice_ok (hT : TabOk P T) (hR : R base m H w) {t : TypeId} {x v x' : Value} {lo hi mx lo' hi' mx' : Option Value} (h : aslice T t x lo hi mx H = some v) (hx : VR m x x') (hlo : VRo m lo lo') (hhi : VRo m hi hi') (hmx : VRo m mx mx') :
    Yld P m w (Instr.sliceAt t x' lo' hi' mx') v := by
  unfold aslice at h
  split at h
  · cases h
  rename_i hmh
  have hm3 : mx.isSome = true → hi.isSome = true := fun a => by
    cases hi with
    | none => simp [a] at hmh
    | some _ => rfl
  split at h
  · cases h
  rename_i r hr
  have hu := hT.und hr w
  split at h
  · -- a text
    rename_i s e
    cases hx
    split at h
    · cases h
    rename_i hmx0
    have hmn : mx = none := by cases mx; rfl; simp at hmx0
    subst hmn
    have hmn' : mx' = none := by rcases hmx with ⟨_, h⟩ | ⟨_, _, h, _⟩; exact h; cases h
    subst hmn'
    split at h
    · cases h
    rename_i hh hhe
    split at h
    · cases h
    rename_i ll hle
    obtain rfl := Option.some.inj h
    obtain ⟨hrun, _⟩ := bounds_ok (P := P) (w := w) (isS := false) (len := s.size) (cap := s.size) (y := s.size) (mm := s.size) hlo hhi hmx (Nat.le_refl _) (by simp) (by simp [bnd]) (by simpa using hhe) hle (by simp)
    exact ⟨.string (s.extract ll hh), by simp [Instr.sliceAt, hu, e, Instr.slice, hrun], by rw [extract_list]; exact .string _⟩
  · -- a slice
    rename_i e a n c he
    split at h
    · cases h
    rename_i re hre
    have hs := hT.size hre w
    split at h
    · -- nil
      cases hx
      split at h
      · cases h
      rename_i mm hme
      split at h
      · cases h
      rename_i hh hhe
      split at h
      · cases h
      rename_i ll hle
      obtain rfl := Option.some.inj h
      have h2 : bnd (if mx.isSome then mm else c) hi n = some hh := by
        cases mx with
        | none => have := bnd_none hme; subst this; simpa using hhe
        | some q => simpa using hhe
      obtain ⟨hrun, _⟩ := bounds_ok (P := P) (w := w) (isS := true) (len := n) (cap := c) (y := c) hlo hhi hmx (Nat.le_refl _) (fun _ => rfl) hme h2 hle hm3
      exact ⟨.slice none (hh - ll) (mm - ll), by simp [Instr.sliceAt, hu, he, Instr.slice, hrun, hs], .nils _ _⟩
    · rename_i b o
      obtain ⟨l, o', c', hl, rfl, hcc, hor⟩ := hx.sl_inv
      split at h
      · -- a row as it is
        rename_i q1 q2 q3 hb
        have hfin : l.fin = none := (hR.at hb hl).2.1
        obtain ⟨rfl, rfl⟩ : o' = l.off + o ∧ c' = c := by
          rcases hor with ⟨_, h1, h2⟩ | ⟨sz, f, h1, _⟩
          · exact ⟨h1, h2⟩
          · rw [hfin] at h1; cases h1
        split at h
        · cases h
        rename_i mm hme
        split at h
        · cases h
        rename_i hh hhe
        split at h
        · cases h
        rename_i ll hle
        obtain rfl := Option.some.inj h
        have h2 : bnd (if mx.isSome then mm else c') hi n = some hh := by
          cases mx with
          | none => have := bnd_none hme; subst this; simpa using hhe
          | some q => simpa using hhe
        obtain ⟨hrun, _⟩ := bounds_ok (P := P) (w := w) (isS := true) (len := n) (cap := c') (y := c') hlo hhi hmx (Nat.le_refl _) (fun _ => rfl) hme h2 hle hm3
        by_cases hml : mm = ll
        · subst hml
          exact ⟨.slice (some ⟨l.blk, l.off + o, none⟩) (hh - mm) (mm - mm), by simp [Instr.sliceAt, hu, he, Instr.slice, hrun, hs], by simpa using VR.sl (n := hh - mm) (c := mm - mm) (o := o) hl hfin⟩
        · refine ⟨.slice (some ⟨l.blk, l.off + (o + ll * re.size), none⟩) (hh - ll) (mm - ll), by simp [Instr.sliceAt, hu, he, Instr.slice, hrun, hs, hml, add_none, Nat.add_assoc], ?_⟩
          have : (mm == ll) = false := by simpa using hml
          rw [this]
          exact VR.sl hl hfin
      · -- a row that may grow
        rename_i q1 q2 q3 sz hb
        obtain ⟨f, cs, hfin, _⟩ := (hR.at hb hl).2
        obtain ⟨hnc, hz⟩ : n ≤ c ∧ (c' = 0 ∨ (o' = l.off + o ∧ o' + c' * sz ≤ f)) := by
          rcases hor with ⟨h1, _⟩ | ⟨sz', f', h1, h2, h3⟩
          · rw [hfin] at h1; cases h1
          · rw [hfin] at h1
            obtain ⟨rfl, rfl⟩ := Prod.mk.inj (Option.some.inj h1)
            exact ⟨h2, h3⟩
        split at h
        · cases h
        rename_i hck
        simp only [Bool.or_eq_true, bne_iff_ne, ne_eq, not_or, Bool.not_eq_true, Decidable.not_not] at hck
        obtain ⟨hmx0, rfl⟩ := hck
        have hmn : mx = none := by cases mx; rfl; simp at hmx0
        subst hmn
        split at h
        · cases h
        rename_i hh hhe
        split at h
        · cases h
        rename_i ll hle
        obtain rfl := Option.some.inj h
        obtain ⟨hrun, g1, g2, g3, g4, _⟩ := bounds_ok (P := P) (w := w) (isS := true) (len := n) (cap := c') (y := n) (mm := c') hlo hhi hmx (by omega) (by simp) (by simp [bnd]) (by simpa using hhe) hle (by simp)
        have hhn : hh ≤ n := by
          cases hi with
          | none => rw [g2 rfl]; exact Nat.le_refl _
          | some q =>
            rcases hhi with ⟨h0, _⟩ | ⟨u, u', h0, _, hv⟩
            · cases h0
            · obtain rfl := Option.some.inj h0
              exact (bnd_some (P := P) (w := w) hhe hv .index (Nat.le_refl _)).2
        have hlh : ll ≤ hh := by
          cases lo with
          | none => rw [g4 rfl]; omega
          | some q => exact g3 rfl
        by_cases hml : c' = ll
        · subst hml
          exact ⟨.slice (some ⟨l.blk, o', none⟩) (hh - c') (c' - c'), by simp [Instr.sliceAt, hu, he, Instr.slice, hrun, hs], .slg hl hfin (by omega) (by omega) (.inl (by omega))⟩
        · refine ⟨.slice (some ⟨l.blk, o' + ll * re.size, none⟩) (hh - ll) (c' - ll), by simp [Instr.sliceAt, hu, he, Instr.slice, hrun, hs, hml, add_none], .slg hl hfin (by omega) (by omega) ?_⟩
          rcases hz with hz | ⟨rfl, hz⟩
          · left; omega
          · right
            refine ⟨by omega, ?_⟩
            have : ll * re.size + (c' - ll) * re.size = c' * re.size := by rw [← Nat.add_mul]; congr 1; omega
            omega
      · cases h
    · cases h
  · -- an array
    rename_i nn e b o he
    obtain ⟨l, hl, rfl⟩ := hx.ptr_inv
    split at h
    · cases h
    rename_i re hre
    have hs := hT.size hre w
    split at h
    · rename_i q1 q2 q3 hb
      have hfin : l.fin = none := (hR.at hb hl).2.1
      split at h
      · cases h
      rename_i hmx0
      have hmn : mx = none := by cases mx; rfl; simp at hmx0
      subst hmn
      split at h
      · cases h
      rename_i hh hhe
      split at h
      · cases h
      rename_i ll hle
      obtain rfl := Option.some.inj h
      obtain ⟨hrun, _⟩ := bounds_ok (P := P) (w := w) (isS := false) (len := nn) (cap := nn) (y := nn) (mm := nn) hlo hhi hmx (Nat.le_refl _) (by simp) (by simp [bnd]) (by simpa using hhe) hle (by simp)
      by_cases hml : nn = ll
      · subst hml
        exact ⟨.slice (some ⟨l.blk, l.off + o, none⟩) (hh - nn) (nn - nn), by simp [Instr.sliceAt, hu, he, Instr.sureAddr, hrun, hs], by simpa using VR.sl (n := hh - nn) (c := nn - nn) (o := o) hl hfin⟩
      · refine ⟨.slice (some ⟨l.blk, l.off + (o + ll * re.size), none⟩) (hh - ll) (nn - ll), by simp [Instr.sliceAt, hu, he, Instr.sureAddr, hrun, hs, hml, add_none, Nat.add_assoc], ?_⟩
        have : (nn == ll) = false := by simpa using hml
        rw [this]
        exact VR.sl hl hfin
    · cases h
  · cases h
end
end Go.Proofs.YtkgmpkoamicheaaGreatDoor.M
