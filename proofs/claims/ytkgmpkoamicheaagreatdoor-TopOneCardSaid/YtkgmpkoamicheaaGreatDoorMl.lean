/- The quick way's answers are the program's: lengths, slices, maps read. No program in it. -/
import Derived.Test.YtkgmpkoamicheaaGreatDoorMk
import Derived.MapKept
namespace Go.Proofs.YtkgmpkoamicheaaGreatDoor.M
section
variable {P : Program} {T : Tab} {base : Nat} {m : Mu} {H : AHeap} {w : World}

/-- a map's entries, as they stand in the world -/
theorem R.mapS (hR : R base m H w) {b : Nat} {es : List (Value × Value)} {bs : List Nat} {clk : Nat} (hb : H.get b = some (.map es bs clk)) {l : Loc} (hl : m b = some l) : ∃ (ces : Array MapEntry), w.heap[l.blk]? = some (.map ces clk) ∧ ces.size = es.length ∧
    (∀ (i : Nat) (k v : Value), es[i]? = some (k, v) → ∃ e : MapEntry, ces[i]? = some e ∧ VR m k e.key ∧ VR m v e.val) ∧ MapKept.Stamped ces clk ∧ ces.toList.map (·.born) = bs := (hR.at hb hl).2
theorem R.map (hR : R base m H w) {b : Nat} {es : List (Value × Value)} {bs : List Nat} {clk : Nat} (hb : H.get b = some (.map es bs clk)) {l : Loc} (hl : m b = some l) : ∃ (ces : Array MapEntry) (clock : Nat), w.heap[l.blk]? = some (.map ces clock) ∧ ces.size = es.length ∧
    ∀ (i : Nat) (k v : Value), es[i]? = some (k, v) → ∃ e : MapEntry, ces[i]? = some e ∧ VR m k e.key ∧ VR m v e.val := let ⟨ces, a, b, c, _⟩ := hR.mapS hb hl; ⟨ces, clk, a, b, c⟩
theorem run_getMap {b : Nat} {ces : Array MapEntry} {clock : Nat} (h : w.heap[b]? = some (.map ces clock)) : (getObj b).run P w = .ok (.map ces clock) w := by
  simp [getObj, Sem.run, h]
theorem VR.map_inv {b : Option Nat} {v : Value} (h : VR m (.map b) v) : (b = none ∧ v = .map none) ∨ ∃ c l, b = some c ∧ m c = some l ∧ v = .map (some l.blk) := by
  cases h
  · exact .inl ⟨rfl, rfl⟩
  · exact .inr ⟨_, _, rfl, ‹_›, rfl⟩

theorem keyEq_ok {k e k' e' : Value} {b : Bool} (h : keyEq k e = some b) (hk : VR m k k') (he : VR m e e') {d : TypeDesc} (hf : keyFits d k = true) : Instr.sameNow d k' e' = some b := by
  unfold keyEq at h
  split at h
  · cases hk; cases he
    split at h
    · rename_i hkk
      obtain rfl := Option.some.inj h
      cases d <;> simp [keyFits] at hf
      simp [Instr.sameNow, hkk]
    · cases h
  · cases hk; cases he
    obtain rfl := Option.some.inj h
    cases d <;> simp [keyFits] at hf
    simp [Instr.sameNow, str_beq]
  · cases hk; cases he
    obtain rfl := Option.some.inj h
    cases d <;> simp [keyFits] at hf
    simp [Instr.sameNow]
  · cases h
/-- the entries, from place i on -/
theorem afind_ok {kv kv' : Value} (hk : VR m kv kv') {d : TypeDesc} (hf : keyFits d kv = true) : ∀ (es : List (Value × Value)) (ces : List MapEntry) (i : Nat) {r : Option Value}, ces.length = es.length →
    (∀ (j : Nat) (k v : Value), es[j]? = some (k, v) → ∃ e : MapEntry, ces[j]? = some e ∧ VR m k e.key ∧ VR m v e.val) → afind kv es = some r →
    (r = none ∧ Instr.findNow d kv' ces i = some none) ∨ ∃ v j v', r = some v ∧ Instr.findNow d kv' ces i = some (some (i + j, v')) ∧ VR m v v' ∧ j < es.length ∧ (∃ k, es[j]? = some (k, v) ∧ keyEq kv k = some true) ∧ (∀ q, q < j → ∀ k u, es[q]? = some (k, u) → keyEq kv k = some false)
  | [], ces, i, r, hl, _, h => by
    obtain rfl := Option.some.inj h
    have : ces = [] := List.eq_nil_of_length_eq_zero hl
    subst this
    exact .inl ⟨rfl, rfl⟩
  | (a, b) :: es, [], i, r, hl, _, h => by simp at hl
  | (a, b) :: es, e :: ces, i, r, hl, hc, h => by
    obtain ⟨e', h1, h2, h3⟩ := hc 0 a b rfl
    simp at h1
    subst h1
    simp only [afind] at h
    split at h
    · cases h
    · rename_i hq
      obtain rfl := Option.some.inj h
      have := keyEq_ok hq hk h2 hf
      exact .inr ⟨b, 0, e.val, rfl, by simp [Instr.findNow, this], h3, by simp, ⟨a, rfl, hq⟩, fun q hq => by omega⟩
    · rename_i hq
      have := keyEq_ok hq hk h2 hf
      rcases afind_ok hk hf es ces (i + 1) (by simpa using hl) (fun j k v hj => hc (j + 1) k v (by simpa using hj)) h with ⟨g1, g2⟩ | ⟨v, j, v', g1, g2, g3, g4, ⟨k, g5, g6⟩, g7⟩
      · exact .inl ⟨g1, by simp [Instr.findNow, this, g2]⟩
      · refine .inr ⟨v, j + 1, v', g1, by simp [Instr.findNow, this, g2]; omega, g3, by simp; omega, ⟨k, by simpa using g5, g6⟩, fun q hqj k' u hq' => ?_⟩
        cases q with
        | zero => simp at hq'; rw [← hq'.1]; exact hq
        | succ q => exact g7 q (by omega) k' u (by simpa using hq')
theorem checkKey_succ (hT : TabOk P T) {kt : TypeId} {rk : TyRow} (hr : T.get kt = some rk) {kv kv' : Value} (hk : VR m kv kv') (hf : keyFits rk.und kv = true) (e : Bool) (n : Nat) : (Instr.checkKey e (n + 1) kt kv').run P w = .ok () w := by
  have hu := hT.und hr w
  simp only [Instr.checkKey, Sem.run_bind, hu, Result.andThen_ok]
  generalize rk.und = d at hf
  unfold keyFits at hf
  split at hf
  · cases hk; rfl
  · cases hk; rfl
  · cases hk; rfl
  · cases hf
theorem checkKey_ok (hT : TabOk P T) {kt : TypeId} {rk : TyRow} (hr : T.get kt = some rk) {kv kv' : Value} (hk : VR m kv kv') (hf : keyFits rk.und kv = true) (e : Bool) : (Instr.checkKey e 10000 kt kv').run P w = .ok () w := checkKey_succ hT hr hk hf e 9999
theorem findKey_ok (hT : TabOk P T) {kt : TypeId} {rk : TyRow} (hr : T.get kt = some rk) {kv : Value} {ces : List MapEntry} {r : Option (Nat × Value)} (h : Instr.findNow rk.und kv ces 0 = some r) : (Instr.findKey kt kv ces).run P w = .ok r w := by
  have hu := hT.und hr w
  simp [Instr.findKey, hu, h]

theorem xLookup_ok (hT : TabOk P T) (hR : R base m H w) {t : TypeId} {ok : Bool} {x k v x' k' : Value} (h : xLookup T H t ok (some x) (some k) = some v) (hx : VR m x x') (hk : VR m k k') : Yld P m w (Instr.lookup t x' k' ok) v := by
  unfold xLookup at h
  split at h
  case h_2 => cases h
  rename_i mb kv e1 e2
  obtain rfl := Option.some.inj e1
  obtain rfl := Option.some.inj e2
  split at h
  case h_2 => cases h
  rename_i r hr
  have hu := hT.und hr w
  split at h
  case h_2 => cases h
  rename_i kt et he
  split at h
  case h_2 => cases h
  rename_i rk re hrk hre
  split at h
  · cases h
  rename_i hf
  simp only [Bool.not_eq_true', Bool.not_eq_false] at hf
  split at h
  · cases h
  rename_i es hes
  -- the entries in the world
  have hent : ∃ ces : Array MapEntry, ((x' = .map none ∧ ces = #[]) ∨ ∃ b clock, x' = .map (some b) ∧ (getObj b).run P w = .ok (.map ces clock) w) ∧ ces.toList.length = es.length ∧ ∀ (i : Nat) (k v : Value), es[i]? = some (k, v) → ∃ e : MapEntry, ces.toList[i]? = some e ∧ VR m k e.key ∧ VR m v e.val := by
    rcases hx.map_inv with ⟨rfl, rfl⟩ | ⟨c, l, rfl, hl, rfl⟩
    · obtain rfl := Option.some.inj hes
      exact ⟨#[], .inl ⟨rfl, rfl⟩, rfl, by simp⟩
    · simp only [mapAt] at hes
      split at hes
      · rename_i es' bs clk hb
        obtain rfl := Option.some.inj hes
        obtain ⟨ces, clock, h1, h2, h3⟩ := hR.map hb hl
        exact ⟨ces, .inr ⟨_, clock, rfl, run_getMap h1⟩, by simpa using h2, fun i k v hi => by simpa using h3 i k v hi⟩
      · cases hes
  obtain ⟨ces, hrun, hlen, hces⟩ := hent
  have hck := checkKey_ok (w := w) hT hrk hk hf ces.isEmpty
  split at h
  · rename_i u hau
    obtain rfl := Option.some.inj h
    rcases afind_ok hk hf es ces.toList 0 hlen hces hau with ⟨h1, _⟩ | ⟨u', j, v', h1, h2, h3, _⟩
    · cases h1
    · obtain rfl := Option.some.inj h1
      have hfk := findKey_ok (w := w) hT hrk h2
      refine ⟨if ok then .tuple #[v', .bool true] else v', ?_, ?_⟩
      · rcases hrun with ⟨rfl, rfl⟩ | ⟨b, clock, rfl, hg⟩
        · simp at hck hfk
          simp [Instr.lookup, hu, he, hck, hfk]
        · simp [Instr.lookup, hu, he, hg, hck, hfk]
      · split
        · exact pair_VR h3 (.bool _)
        · exact h3
  · rename_i z hau hz
    split at h
    · rename_i hp
      obtain rfl := Option.some.inj h
      rcases afind_ok hk hf es ces.toList 0 hlen hces hau with ⟨_, h2⟩ | ⟨u', j, v', h1, _⟩
      · have hfk := findKey_ok (w := w) hT hrk h2
        have hzr := hT.zero hre hz w
        refine ⟨if ok then .tuple #[z, .bool false] else z, ?_, ?_⟩
        · rcases hrun with ⟨rfl, rfl⟩ | ⟨b, clock, rfl, hg⟩
          · simp at hck hfk
            simp [Instr.lookup, hu, he, hck, hfk, hzr]
          · simp [Instr.lookup, hu, he, hg, hck, hfk, hzr]
        · split
          · exact pair_VR (plainV_VR m hp) (.bool _)
          · exact plainV_VR m hp
      · cases h1
    · cases h
  · cases h

theorem xLen_ok (hT : TabOk P T) (hR : R base m H w) {t ty : TypeId} {ts : List TypeId} {xs' : List Value} {x v x' : Value} (h : xLen T H t x = some v) (hx : VR m x x') : Yld P m w (Builtin.len_ (t :: ts).toArray ty (x' :: xs').toArray) v := by
  unfold xLen at h
  split at h
  case h_2 => cases h
  rename_i r hr
  have hu := hT.und hr w
  split at h
  · rename_i e
    cases hx
    obtain rfl := Option.some.inj h
    exact ⟨_, by simp [Builtin.len_, hu, e, goInt], .int _ _⟩
  · rename_i e
    obtain rfl := Option.some.inj h
    exact ⟨_, by simp [Builtin.len_, hu, e, goInt], .int _ _⟩
  · rename_i e
    obtain rfl := Option.some.inj h
    cases hx <;> exact ⟨_, by simp [Builtin.len_, hu, e, goInt], .int _ _⟩
  · rename_i mb e
    split at h
    · rename_i es hes
      obtain rfl := Option.some.inj h
      rcases hx.map_inv with ⟨rfl, rfl⟩ | ⟨c, l, rfl, hl, rfl⟩
      · obtain rfl := Option.some.inj hes
        exact ⟨_, by simp [Builtin.len_, hu, e, goInt], .int _ _⟩
      · simp only [mapAt] at hes
        split at hes
        · rename_i es' bs clk hb
          obtain rfl := Option.some.inj hes
          obtain ⟨ces, clock, h1, h2, h3⟩ := hR.map hb hl
          exact ⟨_, by simp [Builtin.len_, hu, e, goInt, run_getMap h1, h2], .int _ _⟩
        · cases hes
    · cases h
  · cases h
end
end Go.Proofs.YtkgmpkoamicheaaGreatDoor.M
