/- The quick way's answers are the program's: maps written, texts ranged over, the greater. No program in it. -/
import Derived.Test.YtppgjkjdddanbaaDoorMs
namespace Go.Proofs.YtppgjkjdddanbaaDoor.M
section
variable {P : Program} {T : Tab} {base : Nat} {m : Mu} {H : AHeap} {w : World}

def setB (w : World) (b : Nat) (o : Obj) : World := { w with heap := w.heap.setIfInBounds b o }
theorem setB_at {b : Nat} {o o' : Obj} (h : w.heap[b]? = some o) : (setB w b o').heap[b]? = some o' := by
  have := (Array.getElem?_eq_some_iff.1 h).1
  simp [setB, this]
theorem setB_far {b k : Nat} {o' : Obj} (h : k ≠ b) : (setB w b o').heap[k]? = w.heap[k]? := by
  simp only [setB]
  rw [Array.getElem?_setIfInBounds_ne (Ne.symm h)]
theorem setB_same {b : Nat} {o' : Obj} : (setB w b o').os = w.os ∧ (setB w b o').tape = w.tape ∧ (setB w b o').output = w.output ∧ (setB w b o').heap.size = w.heap.size := ⟨rfl, rfl, rfl, by simp [setB]⟩
theorem run_setMap {b : Nat} {ces : Array MapEntry} {clock : Nat} (h : w.heap[b]? = some (.map ces clock)) (o : Obj) : (setObj b o).run P w = .ok () (setB w b o) := by
  simp [setObj, Sem.run, h, setB]
theorem BR.mapI {l : Loc} {es : List (Value × Value)} {ces : Array MapEntry} {clock : Nat} (h1 : w.heap[l.blk]? = some (.map ces clock)) (h2 : ces.size = es.length)
    (h3 : ∀ (i : Nat) (k v : Value), es[i]? = some (k, v) → ∃ e : MapEntry, ces[i]? = some e ∧ VR m k e.key ∧ VR m v e.val) : BR m w l (.map es) := ⟨ces, clock, h1, h2, h3⟩
theorem sameBits_key {k a k' a' : Value} (h : keyEq k a = some true) (hk : VR m k k') (ha : VR m a a') : Instr.sameBits 10000 a' k' = true := by
  unfold keyEq at h
  split at h
  · cases hk; cases ha
    split at h
    · rename_i hkk
      simp at h
      subst hkk; subst h
      show Instr.sameBits (9999 + 1) _ _ = true
      simp [Instr.sameBits]
    · cases h
  · cases hk; cases ha
    rename_i x y
    simp at h
    have hxy : (x == y) = true := by rw [str_beq]; exact h
    have hxy' : x = y := by
      have : x.data = y.data := by
        have h2 : (x == y) = (x.data == y.data) := rfl
        rw [h2] at hxy
        simpa using hxy
      exact ByteArray.ext this
    subst hxy'
    show Instr.sameBits (9999 + 1) _ _ = true
    simp only [Instr.sameBits]
    exact hxy
  · cases hk; cases ha
    simp at h
    subst h
    show Instr.sameBits (9999 + 1) _ _ = true
    simp [Instr.sameBits]
  · cases h

theorem xUpdate_ok (hT : TabOk P T) (hR : R base m H w) {t : TypeId} {x k v x' k' v' : Value} {o : Out} {H1 : AHeap} {id : Nat} (h : xUpdate T H t (some x) (some k) (some v) = some (o, H1)) (hx : VR m x x') (hk : VR m k k') (hv : VR m v v') :
    o = .skip ∧ ∃ w', (Instr.mapUpdate t x' k' v').run P w = .ok () w' ∧ Stp base m H w m H1 w' (· = id) := by
  unfold xUpdate at h
  split at h
  case h_2 => cases h
  rename_i b kv vv e1 e2 e3
  obtain rfl := Option.some.inj e1
  obtain rfl := Option.some.inj e2
  obtain rfl := Option.some.inj e3
  split at h
  case h_2 => cases h
  rename_i r hr
  have hu := hT.und hr w
  split at h
  case h_2 => cases h
  rename_i kt et he
  split at h
  case h_2 => cases h
  rename_i rk es hrk hb
  split at h
  · cases h
  rename_i hf
  simp only [Bool.not_eq_true', Bool.not_eq_false] at hf
  split at h
  case h_2 => cases h
  rename_i fnd hau
  obtain ⟨rfl, rfl⟩ := Prod.mk.inj (Option.some.inj h)
  refine ⟨rfl, ?_⟩
  rcases hx.map_inv with ⟨hbb, _⟩ | ⟨c, l, hbb, hl, rfl⟩
  · cases hbb
  obtain rfl := Option.some.inj hbb
  obtain ⟨ces, clock, hh, hlen, hces⟩ := hR.map hb hl
  have hck := checkKey_ok (w := w) hT hrk hk hf false
  have hces' : ∀ (j : Nat) (k v : Value), es[j]? = some (k, v) → ∃ e : MapEntry, ces.toList[j]? = some e ∧ VR m k e.key ∧ VR m v e.val := fun j k v hj => by simpa using hces j k v hj
  rcases afind_ok hk hf es ces.toList 0 (by simpa using hlen) hces' hau with ⟨rfl, h2⟩ | ⟨u, j, u', rfl, h2, h3, hj, ⟨a, h5, h6⟩, h7⟩
  · have hfk := findKey_ok (w := w) hT hrk h2
    refine ⟨setB w l.blk (.map (ces.push ⟨k', v', clock⟩) (clock + 1)), ?_, hR.wrote hb hl setB_same (fun q hq => setB_far hq) (BR.mapI (setB_at hh) (by rw [aupd_none es hau]; simp [hlen]) fun i q u hi => ?_) _⟩
    · simp [Instr.mapUpdate, hu, he, run_getMap hh, hck, hfk, run_setMap hh]
    · rw [aupd_none es hau] at hi
      by_cases e : i < es.length
      · rw [List.getElem?_append_left e] at hi
        obtain ⟨en, g1, g2⟩ := hces i q u hi
        exact ⟨en, by rw [Array.getElem?_push, if_neg (by omega)]; exact g1, g2⟩
      · rw [List.getElem?_append_right (by omega)] at hi
        have : i = es.length := by
          have := (List.getElem?_eq_some_iff.1 hi).1
          simp at this; omega
        subst this
        simp at hi
        obtain ⟨rfl, rfl⟩ := hi
        exact ⟨⟨k', v', clock⟩, by rw [Array.getElem?_push, if_pos hlen.symm], hk, hv⟩
  · have hfk := findKey_ok (w := w) hT hrk h2
    rw [Nat.zero_add] at hfk
    obtain ⟨en, g1, g2, g3⟩ := hces j a u h5
    have hsb := sameBits_key h6 hk g2
    have hjs : j < ces.size := by omega
    have hst : (Instr.keyThatStays (((ces[j]?).map (·.key)).getD k') k').run P w = .ok k' w := by
      rw [g1]
      simp [Instr.keyThatStays, hsb]
    refine ⟨setB w l.blk (.map (ces.modify j fun e => { e with key := k', val := v' }) clock), ?_, hR.wrote hb hl setB_same (fun q hq => setB_far hq) (BR.mapI (setB_at hh) (by rw [aupd_at es j ⟨a, h5, h6⟩ h7]; simp [hlen]) fun i q u2 hi => ?_) _⟩
    · simp [Instr.mapUpdate, hu, he, run_getMap hh, hck, hfk, hst, run_setMap hh]
    · rw [aupd_at es j ⟨a, h5, h6⟩ h7] at hi
      by_cases e : i = j
      · subst e
        rw [List.getElem?_set_self (by omega)] at hi
        simp at hi
        obtain ⟨rfl, rfl⟩ := hi
        exact ⟨{ en with key := k', val := v' }, by rw [Array.getElem?_modify, if_pos rfl, g1]; rfl, hk, hv⟩
      · rw [List.getElem?_set_ne (Ne.symm e)] at hi
        obtain ⟨en', g4, g5⟩ := hces i q u2 hi
        exact ⟨en', by rw [Array.getElem?_modify, if_neg (Ne.symm e)]; exact g4, g5⟩

theorem xDelete_ok (hT : TabOk P T) (hR : R base m H w) {ts : Array TypeId} {as : Array Value} {t ty : TypeId} {b : Nat} {k x' k' : Value} {o : Out} {H1 : AHeap} {id : Nat} (h : xDelete T H t b k = some (o, H1)) (h0 : ts[0]? = some t) (h2 : as[0]? = some x') (h3 : as[1]? = some k')
    (hx : VR m (.map (some b)) x') (hk : VR m k k') : ∃ v, o = .val v ∧ Mem P base m H w (Builtin.delete_ ts ty as) v H1 id := by
  unfold xDelete at h
  split at h
  case h_2 => cases h
  rename_i r es hr hb
  have hu := hT.und hr w
  split at h
  case h_2 => cases h
  rename_i kt et he
  split at h
  case h_2 => cases h
  rename_i rk hrk
  split at h
  · cases h
  rename_i hf
  simp only [Bool.not_eq_true', Bool.not_eq_false] at hf
  split at h
  case h_2 => cases h
  rename_i fnd hau
  obtain ⟨rfl, rfl⟩ := Prod.mk.inj (Option.some.inj h)
  refine ⟨_, rfl, ?_⟩
  rcases hx.map_inv with ⟨hbb, _⟩ | ⟨c, l, hbb, hl, rfl⟩
  · cases hbb
  obtain rfl := Option.some.inj hbb
  obtain ⟨ces, clock, hh, hlen, hces⟩ := hR.map hb hl
  have hck := checkKey_ok (w := w) hT hrk hk hf ces.isEmpty
  have hces' : ∀ (j : Nat) (k v : Value), es[j]? = some (k, v) → ∃ e : MapEntry, ces.toList[j]? = some e ∧ VR m k e.key ∧ VR m v e.val := fun j k v hj => by simpa using hces j k v hj
  rcases afind_ok hk hf es ces.toList 0 (by simpa using hlen) hces' hau with ⟨rfl, h4⟩ | ⟨u, j, u', rfl, h4, h5, hj, ⟨a, h6, h7⟩, h8⟩
  · have hfk := findKey_ok (w := w) hT hrk h4
    refine ⟨m, setB w l.blk (.map ces clock), .tuple #[], ?_, VR.tuple' (.nil m), hR.wrote hb hl setB_same (fun q hq => setB_far hq) (BR.mapI (setB_at hh) (by rw [adel_none es hau]; exact hlen) fun i q u hi => ?_) _⟩
    · simp [Builtin.delete_, h0, h2, h3, hu, he, run_getMap hh, hck, hfk, run_setMap hh]
    · rw [adel_none es hau] at hi
      exact hces i q u hi
  · have hfk := findKey_ok (w := w) hT hrk h4
    rw [Nat.zero_add] at hfk
    have hjs : j < ces.size := by omega
    have her : ces.eraseIdxIfInBounds j = ces.eraseIdx j hjs := by simp [Array.eraseIdxIfInBounds, hjs]
    refine ⟨m, setB w l.blk (.map (ces.eraseIdxIfInBounds j) clock), .tuple #[], ?_, VR.tuple' (.nil m), hR.wrote hb hl setB_same (fun q hq => setB_far hq) (BR.mapI (setB_at hh) ?_ fun i q u2 hi => ?_) _⟩
    · simp [Builtin.delete_, h0, h2, h3, hu, he, run_getMap hh, hck, hfk, run_setMap hh]
    · rw [adel_at es j ⟨a, h6, h7⟩ h8, her]
      simp [List.length_eraseIdx, hj, hlen]
    · rw [adel_at es j ⟨a, h6, h7⟩ h8, List.getElem?_eraseIdx] at hi
      rw [her, Array.getElem?_eraseIdx]
      split at hi
      · rename_i e
        rw [if_pos e]
        exact hces i q u2 hi
      · rename_i e
        rw [if_neg e]
        exact hces (i + 1) q u2 hi

/-! a text ranged over -/
theorem xRange_ok (hT : TabOk P T) (hR : R base m H w) (hb : base ≤ w.heap.size) {id : Nat} (hid : m id = none) {t : TypeId} {x x' : Value} {o : Out} {H1 : AHeap} (h : xRange T id H t (some x) = some (o, H1)) (hx : VR m x x') :
    ∃ v, o = .val v ∧ Mem P base m H w (Instr.range t x') v H1 id := by
  unfold xRange at h
  split at h
  case h_2 => cases h
  rename_i s e1
  obtain rfl := Option.some.inj e1
  cases hx
  split at h
  case h_2 => cases h
  rename_i r hr
  have hu := hT.und hr w
  split at h
  case h_2 => cases h
  rename_i he
  obtain ⟨rfl, rfl⟩ := Prod.mk.inj (Option.some.inj h)
  refine ⟨_, rfl, m.put id ⟨w.heap.size, 0, none⟩, w.alloc (.stringIter s 0), .pointer (some ⟨w.heap.size, 0, none⟩), by simp [Instr.range, hu, he], by simpa using VR.ptr (o := 0) (Mu.put_at m id ⟨w.heap.size, 0, none⟩), hR.new hb hid rfl ⟨rfl, alloc_new _ _⟩⟩
theorem xNext_ok (hR : R base m H w) {x x' : Value} {o : Out} {H1 : AHeap} {id : Nat} {t : TypeId} (h : xNext H (some x) = some (o, H1)) (hx : VR m x x') :
    ∃ v, o = .val v ∧ Mem P base m H w (Instr.next x' true t) v H1 id := by
  unfold xNext at h
  split at h
  case h_2 => cases h
  rename_i b e1
  obtain rfl := Option.some.inj e1
  obtain ⟨l, hl, rfl⟩ := hx.ptr_inv
  split at h
  case h_2 => cases h
  rename_i s pos hb
  obtain ⟨h0, hB⟩ : l.off = 0 ∧ w.heap[l.blk]? = some (.stringIter s pos) := (hR.at hb hl).2
  have hget : (getObj l.blk).run P w = .ok (.stringIter s pos) w := by simp [getObj, Sem.run, hB]
  split at h
  · rename_i hp
    obtain ⟨rfl, rfl⟩ := Prod.mk.inj (Option.some.inj h)
    have hset : ∀ o, (setObj l.blk o).run P w = .ok () (setB w l.blk o) := fun o => by simp [setObj, Sem.run, hB, setB]
    exact ⟨_, rfl, m, setB w l.blk (.stringIter s (pos + (Utf8.decode s pos).2)), .tuple #[.bool true, .int .i64 pos, .int .i32 (Utf8.decode s pos).1], by simp [Instr.next, h0, hget, hp, hset, goInt], VR.tuple' (.cons (.bool _) (.cons (.int _ _) (.cons (.int _ _) (.nil m)))), hR.wrote hb hl setB_same (fun q hq => setB_far hq) (show BR m _ l (.siter s (pos + (Utf8.decode s pos).2)) from ⟨h0, setB_at hB⟩) _⟩
  · rename_i hp
    obtain ⟨rfl, rfl⟩ := Prod.mk.inj (Option.some.inj h)
    exact ⟨_, rfl, m, w, .tuple #[.bool false], by simp [Instr.next, h0, hget, hp], VR.tuple' (.cons (.bool _) (.nil m)), Stp.refl hR _⟩
end
end Go.Proofs.YtppgjkjdddanbaaDoor.M
