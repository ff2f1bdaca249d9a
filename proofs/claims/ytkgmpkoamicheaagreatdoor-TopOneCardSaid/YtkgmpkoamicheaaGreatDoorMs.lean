/- The quick way's answers are the program's: copy, clear, maps written, texts ranged over. No program in it. -/
import Derived.Test.YtkgmpkoamicheaaGreatDoorMr
namespace Go.Proofs.YtkgmpkoamicheaaGreatDoor.M
section
variable {P : Program} {T : Tab} {base : Nat} {m : Mu} {H : AHeap} {w : World}

/-- cells written at a slice's head -/
theorem wrote_ok (hR : R base m H w) {a : Option Addr} {n c : Nat} {s' v : Value} {new new' : List Value} (hs : VR m (.slice a n c) s') (hn : VRs m new new') (h1 : ∀ v ∈ new, one v = true) (hnn : new ≠ [] → 0 < n) {o : Out} {H1 : AHeap} (h : wrote H new v a = some (o, H1)) (N : Nat → Prop) :
    o = .val v ∧ ∃ a' c' w', s' = .slice a' n c' ∧ (∀ ad, a' = some ad → (storeCells ad new').run P w = .ok () w') ∧ (a' = none → w' = w) ∧ Stp base m H w m H1 w' N := by
  unfold wrote at h
  split at h
  · obtain ⟨rfl, rfl⟩ := Prod.mk.inj (Option.some.inj h)
    cases hs
    exact ⟨rfl, none, c, w, rfl, by simp, fun _ => rfl, Stp.refl hR N⟩
  · rename_i b o
    obtain ⟨l, o', c', hl, rfl, hcc, hor⟩ := hs.sl_inv
    split at h
    case h_2 => cases h
    rename_i kk tr e' g hbk
    have hB := (hR.at hbk hl).2
    by_cases hne : new = []
    · subst hne
      obtain rfl := hn.nil_inv
      have hsame : Stp base m H w m (H.put b (some (.cells kk (tr.putAll o []) e' g))) w N := hR.wrote hbk hl ⟨rfl, rfl, rfl, rfl⟩ (fun _ _ => rfl) hB _
      split at h
      · obtain ⟨rfl, rfl⟩ := Prod.mk.inj (Option.some.inj h)
        exact ⟨rfl, _, c', w, rfl, fun _ _ => rfl, (fun h => by cases h), hsame⟩
      · split at h
        · obtain ⟨rfl, rfl⟩ := Prod.mk.inj (Option.some.inj h)
          exact ⟨rfl, _, c', w, rfl, fun _ _ => rfl, (fun h => by cases h), Stp.refl hR N⟩
        · cases h
    · obtain rfl : o' = l.off + o := by
        rcases hor with ⟨_, q, _⟩ | ⟨sz, f, _, hnc, q | q⟩
        · exact q
        · have := hnn hne; omega
        · exact q.1
      split at h
      · rename_i hfit
        obtain ⟨rfl, rfl⟩ := Prod.mk.inj (Option.some.inj h)
        have hst := hB.store (P := P) hn h1 hfit
        exact ⟨rfl, _, c', _, rfl, fun ad ha => by obtain rfl := Option.some.inj ha; exact hst, (fun h => by cases h), hR.wrote hbk hl (setCells_same _ _ _ _) (fun q hq => setCells_far _ _ _ _ q hq) (hB.wrote hn h1 hfit) _⟩
      · split at h
        · rename_i hz'
          exact absurd (List.eq_nil_of_length_eq_zero (by simpa using hz')) hne
        · cases h
  · cases h

theorem xCopy_ok (hT : TabOk P T) (hR : R base m H w) {ts : Array TypeId} {as : Array Value} {t ty : TypeId} {d x d' x' : Value} {o : Out} {H1 : AHeap} {id : Nat}
    (h : xCopy T H t d x = some (o, H1)) (h0 : ts[0]? = some t) (h2 : as[0]? = some d') (h3 : as[1]? = some x') (hd : VR m d d') (hx : VR m x x') :
    ∃ v, o = .val v ∧ Mem P base m H w (Builtin.copy_ ts ty as) v H1 id := by
  unfold xCopy at h
  split at h
  case h_2 => cases h
  rename_i a n c k r hk hr
  split at h
  case h_2 => cases h
  rename_i e he
  split at h
  case h_2 => cases h
  rename_i re hre
  split at h
  case h_2 => cases h
  rename_i new hnew
  split at h
  · cases h
  rename_i hck
  simp only [Bool.or_eq_true, bne_iff_ne, ne_eq, Bool.not_eq_true', not_or, Decidable.not_not, Bool.not_eq_false] at hck
  obtain ⟨hnl, hno⟩ := hck
  have hu := hT.und hr w
  have hs := hT.size hre w
  have hlen := lenV_ok (P := P) (w := w) hk hx
  obtain ⟨new', n1, n2, n3⟩ := sliceCells_ok (P := P) hR hnew hx hnl (fun q hq => by rw [hk] at hq; cases hq; exact Nat.min_le_left _ _)
  obtain ⟨rfl, a', c', w', rfl, g1, g2, g3⟩ := wrote_ok (P := P) hR hd n1 (allOne_mem hno) (fun hne => by
    rcases Nat.eq_zero_or_pos n with q | q
    · subst q; simp at hnl; exact absurd hnl hne
    · exact q) h (· = id)
  refine ⟨_, rfl, m, w', .int .i64 (min k n), ?_, .int _ _, g3⟩
  have n2' : (Builtin.firstCells re.size (Nat.min k n) x').run P w = .ok new'.toArray w := n2
  have hmin : ((Nat.min k n : Nat) : Int) = min (k : Int) n := by
    show ((min k n : Nat) : Int) = _
    omega
  simp only [Builtin.copy_, h0, h2, h3, Sem.run_bind, hu, he, Result.andThen_ok, hlen, hs, n2']
  cases a' with
  | none => simp [g2 rfl, goInt, hmin]
  | some ad => simp [g1 ad rfl, goInt, hmin]

theorem zeroCells_eq (z : Array Value) (n : Nat) : Builtin.zeroCells z n = (Array.range (n * z.size)).map (z[· % z.size]!) := rfl
theorem xClear_ok (hT : TabOk P T) (hR : R base m H w) {ts : Array TypeId} {as : Array Value} {t ty : TypeId} {a : Option Addr} {n c : Nat} {d' : Value} {o : Out} {H1 : AHeap} {id : Nat}
    (h : xClear T H t a n = some (o, H1)) (h0 : ts[0]? = some t) (h2 : as[0]? = some d') (hd : VR m (.slice a n c) d') :
    ∃ v, o = .val v ∧ Mem P base m H w (Builtin.clear_ ts ty as) v H1 id := by
  unfold xClear at h
  split at h
  case h_2 => cases h
  rename_i r hr
  split at h
  case h_2 => cases h
  rename_i e he
  split at h
  case h_2 => cases h
  rename_i re hre
  split at h
  case h_2 => cases h
  rename_i z hz
  split at h
  case isFalse => cases h
  rename_i hck
  simp only [Bool.and_eq_true, beq_iff_eq] at hck
  obtain ⟨⟨hpl, hzl⟩, hz1⟩ := hck
  have hu := hT.und hr w
  have hzr := hT.zero hre hz w
  have hzc : VRs m (cellsL z) z.cells.toList := (plainV_VR m hpl).cellsL
  have hzc' : (cellsL z) = z.cells.toList := by cases z <;> rfl
  have hone : ∀ n, ∀ v ∈ repCells n (cellsL z), one v = true := by
    intro n
    induction n with
    | zero => simp [repCells]
    | succ n ih =>
      intro v hv
      simp only [repCells, List.mem_append] at hv
      rcases hv with hv | hv
      · exact allOne_mem hz1 v hv
      · exact ih v hv
  have hrep := rep_VRs (z := z.cells) (z' := z.cells) (by rw [← hzc']; rw [hzc'] at hzc ⊢; exact hzc) n
  rw [← hzc'] at hrep
  obtain ⟨rfl, a', c', w', rfl, g1, g2, g3⟩ := wrote_ok (P := P) hR hd hrep (hone n) (fun hne => by
    rcases Nat.eq_zero_or_pos n with q | q
    · subst q; exact absurd rfl hne
    · exact q) h (· = id)
  refine ⟨_, rfl, m, w', .tuple #[], ?_, VR.tuple' (.nil m), g3⟩
  simp only [Builtin.clear_, h0, h2, Sem.run_bind, hu, he, Result.andThen_ok]
  cases a' with
  | none => simp [g2 rfl]
  | some ad =>
    have g1' := g1 ad rfl
    cases n with
    | zero =>
      have : w' = w := by simp [storeCells] at g1'; exact g1'.symm
      simp [this]
    | succ n =>
      rw [← zeroCells_eq] at g1'
      simp [hzr, g1']

/-! maps written -/
theorem aupd_at {k v : Value} : ∀ (es : List (Value × Value)) (j : Nat) {u : Value}, (∃ a, es[j]? = some (a, u) ∧ keyEq k a = some true) → (∀ q, q < j → ∀ a b, es[q]? = some (a, b) → keyEq k a = some false) →
    aupd k v es = es.set j (k, v)
  | [], j, u, ⟨a, h, _⟩, _ => by simp at h
  | (a, b) :: es, 0, u, ⟨a', h, hk⟩, _ => by
    simp at h
    obtain ⟨rfl, rfl⟩ := h
    simp [aupd, hk]
  | (a, b) :: es, j + 1, u, ⟨a', h, hk⟩, hf => by
    have := hf 0 (by omega) a b rfl
    simp only [aupd, this, List.set_cons_succ]
    rw [aupd_at es j ⟨a', by simpa using h, hk⟩ fun q hq a b hb => hf (q + 1) (by omega) a b (by simpa using hb)]
theorem aupd_none {k v : Value} : ∀ (es : List (Value × Value)), afind k es = some none → aupd k v es = es ++ [(k, v)]
  | [], _ => rfl
  | (a, b) :: es, h => by
    simp only [afind] at h
    split at h
    · cases h
    · cases h
    · rename_i hq
      simp [aupd, hq, aupd_none es h]
theorem adel_at {k : Value} : ∀ (es : List (Value × Value)) (j : Nat) {u : Value}, (∃ a, es[j]? = some (a, u) ∧ keyEq k a = some true) → (∀ q, q < j → ∀ a b, es[q]? = some (a, b) → keyEq k a = some false) →
    adel k es = es.eraseIdx j
  | [], j, u, ⟨a, h, _⟩, _ => by simp at h
  | (a, b) :: es, 0, u, ⟨a', h, hk⟩, _ => by
    simp at h
    obtain ⟨rfl, rfl⟩ := h
    simp [adel, hk]
  | (a, b) :: es, j + 1, u, ⟨a', h, hk⟩, hf => by
    have := hf 0 (by omega) a b rfl
    simp only [adel, this, List.eraseIdx_cons_succ]
    rw [adel_at es j ⟨a', by simpa using h, hk⟩ fun q hq a b hb => hf (q + 1) (by omega) a b (by simpa using hb)]
theorem adel_none {k : Value} : ∀ (es : List (Value × Value)), afind k es = some none → adel k es = es
  | [], _ => rfl
  | (a, b) :: es, h => by
    simp only [afind] at h
    split at h
    · cases h
    · cases h
    · rename_i hq
      simp [adel, hq, adel_none es h]
end
end Go.Proofs.YtkgmpkoamicheaaGreatDoor.M
