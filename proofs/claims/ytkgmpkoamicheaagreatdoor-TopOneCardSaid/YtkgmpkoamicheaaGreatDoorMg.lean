/- The quick way's answers are the program's: writing. No program in it. -/
import Derived.Test.YtkgmpkoamicheaaGreatDoorMf
import Derived.Laws.IdiomCopy
namespace Go.Proofs.YtkgmpkoamicheaaGreatDoor.M

theorem setCell_at (w : World) (b o : Nat) (v : Value) {cs : Array Value} {e : TypeId} {fz : Nat × Nat} (h : w.heap[b]? = some (.cells cs e fz)) :
    (w.setCell ⟨b, o, none⟩ v).heap[b]? = some (.cells (cs.setIfInBounds o v) e fz) := by
  simp [World.setCell, Array.getElem?_modify, h]
theorem setCell_far (w : World) (b o : Nat) (v : Value) (k : Nat) (hk : k ≠ b) : (w.setCell ⟨b, o, none⟩ v).heap[k]? = w.heap[k]? := by
  simp only [World.setCell, Array.getElem?_modify]
  rw [if_neg (by simpa using (Ne.symm hk))]
theorem setCells_at (b : Nat) : ∀ (vs : List Value) (o : Nat) (w : World) (cs : Array Value) (e : TypeId) (fz : Nat × Nat), w.heap[b]? = some (.cells cs e fz) →
    ∃ cs' : Array Value, (w.setCells b o vs).heap[b]? = some (.cells cs' e fz) ∧ cs'.size = cs.size ∧ ∀ i, i < cs.size → cs'[i]? = if o ≤ i ∧ i < o + vs.length then vs[i - o]? else cs[i]?
  | [], o, w, cs, e, fz, h => ⟨cs, h, rfl, fun i _ => by simp; omega⟩
  | v :: r, o, w, cs, e, fz, h => by
    obtain ⟨cs', h1, h2, h3⟩ := setCells_at b r (o + 1) _ _ e fz (setCell_at w b o v h)
    refine ⟨cs', h1, by rw [h2]; simp, fun i hi => ?_⟩
    rw [h3 i (by simpa using hi)]
    by_cases e1 : i = o
    · subst e1
      rw [if_neg (by omega), if_pos (by simp)]
      simp [hi]
    · by_cases e2 : o + 1 ≤ i ∧ i < o + 1 + r.length
      · rw [if_pos e2, if_pos (by simp; omega), show i - o = (i - (o + 1)) + 1 by omega]
        simp
      · rw [if_neg e2, if_neg (by simp; omega), Array.getElem?_setIfInBounds_ne (Ne.symm e1)]
theorem setCells_far (b : Nat) : ∀ (vs : List Value) (o : Nat) (w : World) (k : Nat), k ≠ b → (w.setCells b o vs).heap[k]? = w.heap[k]?
  | [], _, _, _, _ => rfl
  | v :: r, o, w, k, hk => by rw [World.setCells, setCells_far b r (o + 1) _ k hk, setCell_far w b o v k hk]
theorem setCells_same (b : Nat) : ∀ (vs : List Value) (o : Nat) (w : World), (w.setCells b o vs).os = w.os ∧ (w.setCells b o vs).tape = w.tape ∧ (w.setCells b o vs).output = w.output ∧ (w.setCells b o vs).heap.size = w.heap.size
  | [], _, _ => ⟨rfl, rfl, rfl, rfl⟩
  | v :: r, o, w => by
    obtain ⟨h1, h2, h3, h4⟩ := setCells_same b r (o + 1) (w.setCell ⟨b, o, none⟩ v)
    exact ⟨h1, h2, h3, h4.trans (by simp [World.setCell])⟩

section
variable {P : Program} {T : Tab} {base : Nat} {m : Mu} {H : AHeap} {w : World}
/-- one block is written, in the world and in its picture -/
theorem R.wrote (h : R base m H w) {b : Nat} {B B' : ABlk} {l : Loc} {w' : World} (hb : H.get b = some B) (hl : m b = some l)
    (hs : w'.os = w.os ∧ w'.tape = w.tape ∧ w'.output = w.output ∧ w'.heap.size = w.heap.size) (hf : ∀ k, k ≠ l.blk → w'.heap[k]? = w.heap[k]?) (hB : BR m w' l B') (N : Nat → Prop) :
    Stp base m H w m (H.put b (some B')) w' N := by
  refine ⟨Ext.refl m N, ⟨fun c C hc => ?_, fun c d C D k k' h1 h2 h3 h4 h5 => ?_⟩, ⟨hs.1, hs.2.1, hs.2.2.1, Nat.le_of_eq hs.2.2.2.symm, fun i hi hn => hf i fun e => hn b B l hb hl e.symm⟩, fun c C k hc hk => ?_⟩
  · rw [AHeap.get_put] at hc
    split at hc
    · rename_i e; subst e
      obtain rfl := Option.some.inj hc
      exact ⟨l, hl, (h.at hb hl).1, hB⟩
    · rename_i e
      obtain ⟨k, hk, h1, h2⟩ := h.live c C hc
      exact ⟨k, hk, h1, h2.same (hf _ fun e' => e (h.inj c b C B k l hc hb hk hl e'))⟩
  · rw [AHeap.get_put] at h1 h2
    have e1 : ∃ C', H.get c = some C' := by
      split at h1
      · rename_i e; exact ⟨B, by rw [e]; exact hb⟩
      · exact ⟨C, h1⟩
    have e2 : ∃ D', H.get d = some D' := by
      split at h2
      · rename_i e; exact ⟨B, by rw [e]; exact hb⟩
      · exact ⟨D, h2⟩
    obtain ⟨C', hC⟩ := e1
    obtain ⟨D', hD⟩ := e2
    exact h.inj c d C' D' k k' hC hD h3 h4 h5
  · rw [AHeap.get_put] at hc
    split at hc
    · rename_i e; subst e
      exact .inr ⟨c, B, k, hb, hk, rfl⟩
    · exact .inr ⟨c, C, k, hc, hk, rfl⟩

/-- a block that is looked at no more -/
theorem R.drop (h : R base m H w) {b : Nat} {B : ABlk} {l : Loc} {w' : World} (hb : H.get b = some B) (hl : m b = some l)
    (hs : w'.os = w.os ∧ w'.tape = w.tape ∧ w'.output = w.output ∧ w'.heap.size = w.heap.size) (hf : ∀ k, k ≠ l.blk → w'.heap[k]? = w.heap[k]?) (N : Nat → Prop) : Stp base m H w m (H.put b none) w' N := by
  have un : ∀ {c C}, (H.put b none).get c = some C → c ≠ b ∧ H.get c = some C := fun {c C} hc => by
    rw [AHeap.get_put] at hc
    split at hc
    · cases hc
    · rename_i e; exact ⟨e, hc⟩
  refine ⟨Ext.refl m N, ⟨fun c C hc => ?_, fun c d C D k k' h1 h2 h3 h4 h5 => h.inj c d C D k k' (un h1).2 (un h2).2 h3 h4 h5⟩, ⟨hs.1, hs.2.1, hs.2.2.1, Nat.le_of_eq hs.2.2.2.symm, fun i hi hn => hf i fun e => hn b B l hb hl e.symm⟩, fun c C k hc hk => .inr ⟨c, C, k, (un hc).2, hk, rfl⟩⟩
  obtain ⟨e, hC⟩ := un hc
  obtain ⟨k, hk, h1, h2⟩ := h.live c C hC
  exact ⟨k, hk, h1, h2.same (hf _ fun e' => e (h.inj c b C B k l hC hb hk hl e'))⟩

/-- cells of a block written -/
theorem CellsAt.wrote {l : Loc} {n : Nat} {t : Tr Value} {e : TypeId} {cs : Array Value} (h : CellsAt m w l n t e cs) {o : Nat} {vs vs' : List Value} (hv : VRs m vs vs') (h1 : ∀ v ∈ vs, one v = true) (ho : o + vs.length ≤ n) :
    ∃ cs', cs'.size = cs.size ∧ CellsAt m (w.setCells l.blk (l.off + o) vs') l n (t.putAll o vs) e cs' := by
  obtain ⟨⟨fz, hh, hz⟩, hn, hi⟩ := h
  obtain ⟨cs', h2, h3, h4⟩ := setCells_at l.blk vs' (l.off + o) w cs _ fz hh
  refine ⟨cs', h3, ⟨fz, h2, by rw [h3]; exact hz⟩, by omega, fun i hin => ?_⟩
  have hlen := hv.1
  rw [h4 (l.off + i) (by omega), Tr.get_putAll]
  by_cases hio : o ≤ i ∧ i < o + vs.length
  · obtain ⟨v', g1, g2⟩ := hv.2 (i - o) vs[i - o] (by simp)
    refine ⟨vs[i - o], v', ?_, ?_, g2, h1 _ (List.getElem_mem _)⟩
    · rw [if_pos hio.1]
      have : vs[i - o]? = some vs[i - o] := by simp
      rw [this]
    · rw [if_pos (by omega), show l.off + i - (l.off + o) = i - o by omega]
      exact g1
  · obtain ⟨v, v', g1, g2, g3, g4⟩ := hi i hin
    refine ⟨v, v', ?_, ?_, g3, g4⟩
    · split
      · rw [show vs[i - o]? = none by simp; omega]
        exact g1
      · exact g1
    · rw [if_neg (by omega)]
      exact g2
theorem BR.wrote {l : Loc} {n : Nat} {t : Tr Value} {e : TypeId} {g : Option Nat} (h : BR m w l (.cells n t e g)) {o : Nat} {vs vs' : List Value} (hv : VRs m vs vs') (h1 : ∀ v ∈ vs, one v = true) (ho : o + vs.length ≤ n) :
    BR m (w.setCells l.blk (l.off + o) vs') l (.cells n (t.putAll o vs) e g) := by
  cases g with
  | none =>
    obtain ⟨hf, cs, hc, h2, h3⟩ := h
    obtain ⟨cs', h4, h5⟩ := hc.wrote hv h1 ho
    exact ⟨hf, cs', h5, h2, h4.trans h3⟩
  | some sz =>
    obtain ⟨f, cs, hf, hc, h2, h3⟩ := h
    obtain ⟨cs', h4, h5⟩ := hc.wrote hv h1 ho
    exact ⟨f, cs', hf, h5, h2, by omega⟩
/-- the row of cells o .. of a block may be written -/
theorem BR.store {l : Loc} {n : Nat} {t : Tr Value} {e : TypeId} {g : Option Nat} (h : BR m w l (.cells n t e g)) {o : Nat} {vs vs' : List Value} (hv : VRs m vs vs') (h1 : ∀ v ∈ vs, one v = true) (ho : o + vs.length ≤ n) :
    (storeCells ⟨l.blk, l.off + o, none⟩ vs').run P w = .ok () (w.setCells l.blk (l.off + o) vs') := by
  obtain ⟨cs, ⟨fz, hh, hz⟩, hn, hi⟩ := h.cells
  have hlen := hv.1
  have := run_storeCells_cells (P := P) l.blk (l.off + o) vs' 0 w (fun j hj => by
      have : l.off + o + 0 + j < cs.size := by omega
      simp [World.cell?, hh]
      omega)
    (fun j hj => by
      have := (hz (l.off + o + 0 + j) (by omega)).1
      simp only [World.frozen?, hh]
      simpa using this) (hv.one h1)
  simpa using this

theorem store_ok (hT : TabOk P T) (hR : R base m H w) {t : TypeId} {p p' v v' : Value} (hp : VR m p p') (hv : VR m v v') {H1 : AHeap} (h : astore T t p v H = some H1) (N : Nat → Prop) :
    ∃ w', (Instr.storeAt t p' v').run P w = .ok () w' ∧ Stp base m H w m H1 w' N := by
  unfold astore at h
  split at h
  case h_2 => cases h
  rename_i b o r hr
  obtain ⟨l, hl, rfl⟩ := hp.ptr_inv
  split at h
  case h_2 => cases h
  rename_i n tr e g hb
  simp only at h
  split at h
  case isFalse => cases h
  rename_i hc
  simp only [Bool.and_eq_true, beq_iff_eq, decide_eq_true_eq] at hc
  obtain ⟨⟨hc1, hc2⟩, hc3⟩ := hc
  obtain rfl := Option.some.inj h
  have hB := (hR.at hb hl).2
  have hcs := hv.cellsL
  have h1 := allOne_mem hc3
  have hrun := hB.store (P := P) hcs h1 hc2
  have hsz := hT.size hr w
  refine ⟨_, ?_, hR.wrote hb hl (setCells_same _ _ _ _) (fun k hk => setCells_far _ _ _ _ k hk) (hB.wrote hcs h1 hc2) N⟩
  have hlen : v'.cells.size = r.size := by have := hcs.1; simp at this; omega
  simp [Instr.storeAt, Instr.sureAddr, storeVar, hsz, hlen, hrun]
end
end Go.Proofs.YtkgmpkoamicheaaGreatDoor.M
