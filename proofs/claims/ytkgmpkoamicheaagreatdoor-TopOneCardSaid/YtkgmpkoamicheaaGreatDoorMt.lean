/- The quick way's answers are the program's: maps written, texts ranged over, the greater. No program in it. -/
import Derived.Test.YtkgmpkoamicheaaGreatDoorMs
namespace Go.Proofs.YtkgmpkoamicheaaGreatDoor.M
section
variable {P : Program} {T : Tab} {base : Nat} {m : Mu} {H : AHeap} {w : World}

def setB (w : World) (b : Nat) (o : Obj) : World := { w with heap := w.heap.setIfInBounds b o }
theorem setB_at {b : Nat} {o o' : Obj} (h : w.heap[b]? = some o) : (setB w b o').heap[b]? = some o' := by
  have := (Array.getElem?_eq_some_iff.1 h).1
  simp [setB, this]
theorem setB_far {b k : Nat} {o' : Obj} (h : k ≠ b) : (setB w b o').heap[k]? = w.heap[k]? := by
  simp only [setB]
  rw [Array.getElem?_setIfInBounds_ne (Ne.symm h)]
theorem setB_same {b : Nat} {o' : Obj} : (setB w b o').os = w.os ∧ (setB w b o').tape = w.tape ∧ (setB w b o').output = w.output ∧ (setB w b o').heap.size = w.heap.size := ⟨rfl, rfl, rfl, by simp [setB]⟩
theorem run_setMap {b : Nat} {ces : Array MapEntry} {clock : Nat} (h : w.heap[b]? = some (.map ces clock)) (o : Obj) : (setObj b o).run P w = .ok () (setB w b o) := by
  simp [setObj, Sem.run, h, setB]
theorem BR.mapI {l : Loc} {es : List (Value × Value)} {ces : Array MapEntry} {clock : Nat} (h1 : w.heap[l.blk]? = some (.map ces clock)) (h2 : ces.size = es.length)
    (h3 : ∀ (i : Nat) (k v : Value), es[i]? = some (k, v) → ∃ e : MapEntry, ces[i]? = some e ∧ VR m k e.key ∧ VR m v e.val) (h4 : MapKept.Stamped ces clock) {bs : List Nat} (h5 : ces.toList.map (·.born) = bs) : BR m w l (.map es bs clock) := ⟨ces, h1, h2, h3, h4, h5⟩
theorem map_eraseIdx' {α β : Type} (f : α → β) : ∀ (l : List α) (j : Nat), (l.eraseIdx j).map f = (l.map f).eraseIdx j
  | [], j => by simp
  | a :: l, 0 => by simp
  | a :: l, j + 1 => by simp [map_eraseIdx' f l j]
theorem born_modify (ces : Array MapEntry) (j : Nat) (f : MapEntry → MapEntry) (hf : ∀ e, (f e).born = e.born) : (ces.modify j f).toList.map (·.born) = ces.toList.map (·.born) := by
  apply List.ext_getElem?
  intro i
  simp only [List.getElem?_map, Array.getElem?_toList, Array.getElem?_modify]
  by_cases hij : j = i
  · subst hij
    cases he : ces[j]? with
    | none => simp
    | some e => simp [hf]
  · simp [hij]
theorem adelB_at {k : Value} : ∀ (es : List (Value × Value)) (bs : List Nat) (j : Nat) {u : Value}, (∃ a, es[j]? = some (a, u) ∧ keyEq k a = some true) → (∀ q, q < j → ∀ a b, es[q]? = some (a, b) → keyEq k a = some false) → bs.length = es.length → adelB k es bs = bs.eraseIdx j
  | [], bs, j, u, ⟨a, h, _⟩, _, _ => by simp at h
  | (b, c) :: l, [], j, u, _, _, hl => by simp at hl
  | (b, c) :: l, n :: ns, j, u, ⟨a, h, hk⟩, hf, hl => by
    cases j with
    | zero =>
      simp at h
      obtain ⟨rfl, rfl⟩ := h
      simp [adelB, hk]
    | succ j =>
      have h0 := hf 0 (Nat.succ_pos _) b c (by simp)
      simp only [adelB, h0, List.eraseIdx_cons_succ]
      rw [adelB_at l ns j ⟨a, by simpa using h, hk⟩ (fun q hq a b hb => hf (q + 1) (by omega) a b (by simpa using hb)) (by simpa using hl)]
theorem keyEq_same {k a k' a' : Value} (h : keyEq k a = some true) (hk : VR m k k') (ha : VR m a a') : a' = k' := by
  unfold keyEq at h
  split at h
  · cases hk; cases ha
    split at h
    · rename_i hkk
      simp at h
      subst hkk; subst h
      rfl
    · cases h
  · cases hk; cases ha
    rename_i x y
    simp at h
    have hxy : (x == y) = true := by rw [str_beq]; exact h
    have hxy' : x = y := by
      have : x.data = y.data := by
        have h2 : (x == y) = (x.data == y.data) := rfl
        rw [h2] at hxy
        simpa using hxy
      exact ByteArray.ext this
    rw [hxy']
  · cases hk; cases ha
    simp at h
    rw [h]
  · cases h
theorem keyEq_other {k a k' a' : Value} (h : keyEq k a = some false) (hk : VR m k k') (ha : VR m a a') : a' ≠ k' := by
  unfold keyEq at h
  split at h
  · cases hk; cases ha
    split at h
    · rename_i hkk
      simp at h
      intro q
      cases q
      exact h rfl
    · cases h
  · cases hk; cases ha
    rename_i x y
    simp at h
    intro q
    cases q
    rw [listEq_iff] at h
    simp at h
  · cases hk; cases ha
    simp at h
    intro q
    cases q
    simp at h
  · cases h
theorem afind_no {k : Value} : ∀ {es : List (Value × Value)}, afind k es = some none → ∀ (i : Nat) (a u : Value), es[i]? = some (a, u) → keyEq k a = some false
  | [], _, i, a, u, h => by simp at h
  | (b, c) :: l, h, i, a, u, hi => by
    simp only [afind] at h
    split at h
    · cases h
    · cases h
    · rename_i hb
      cases i with
      | zero => simp at hi; rw [← hi.1]; exact hb
      | succ i => exact afind_no h i a u (by simpa using hi)
theorem sameBits_key {k a k' a' : Value} (h : keyEq k a = some true) (hk : VR m k k') (ha : VR m a a') : Instr.sameBits 10000 a' k' = true := by
  unfold keyEq at h
  split at h
  · cases hk; cases ha
    split at h
    · rename_i hkk
      simp at h
      subst hkk; subst h
      show Instr.sameBits (9999 + 1) _ _ = true
      simp [Instr.sameBits]
    · cases h
  · cases hk; cases ha
    rename_i x y
    simp at h
    have hxy : (x == y) = true := by rw [str_beq]; exact h
    have hxy' : x = y := by
      have : x.data = y.data := by
        have h2 : (x == y) = (x.data == y.data) := rfl
        rw [h2] at hxy
        simpa using hxy
      exact ByteArray.ext this
    subst hxy'
    show Instr.sameBits (9999 + 1) _ _ = true
    simp only [Instr.sameBits]
    exact hxy
  · cases hk; cases ha
    simp at h
    subst h
    show Instr.sameBits (9999 + 1) _ _ = true
    simp [Instr.sameBits]
  · cases h

theorem xUpdate_ok (hT : TabOk P T) (hR : R base m H w) {t : TypeId} {x k v x' k' v' : Value} {o : Out} {H1 : AHeap} {id : Nat} (h : xUpdate T H t (some x) (some k) (some v) = some (o, H1)) (hx : VR m x x') (hk : VR m k k') (hv : VR m v v') :
    o = .skip ∧ ∃ w', (Instr.mapUpdate t x' k' v').run P w = .ok () w' ∧ Stp base m H w m H1 w' (· = id) := by
  unfold xUpdate at h
  split at h
  case h_2 => cases h
  rename_i b kv vv e1 e2 e3
  obtain rfl := Option.some.inj e1
  obtain rfl := Option.some.inj e2
  obtain rfl := Option.some.inj e3
  split at h
  case h_2 => cases h
  rename_i r hr
  have hu := hT.und hr w
  split at h
  case h_2 => cases h
  rename_i kt et he
  split at h
  case h_2 => cases h
  rename_i rk es bs clock hrk hb
  split at h
  · cases h
  rename_i hf
  simp only [Bool.not_eq_true', Bool.not_eq_false] at hf
  obtain ⟨fnd, hau, ho, hH⟩ : ∃ fnd, afind k es = some fnd ∧ o = .skip ∧ H1 = H.put b (some (match fnd with | none => .map (aupd k v es) (bs ++ [clock]) (clock + 1) | some _ => .map (aupd k v es) bs clock)) := by
    split at h
    · rename_i hau; obtain ⟨rfl, rfl⟩ := Prod.mk.inj (Option.some.inj h); exact ⟨none, hau, rfl, rfl⟩
    · rename_i u hau; obtain ⟨rfl, rfl⟩ := Prod.mk.inj (Option.some.inj h); exact ⟨some u, hau, rfl, rfl⟩
    · cases h
  subst hH
  refine ⟨ho, ?_⟩
  rcases hx.map_inv with ⟨hbb, _⟩ | ⟨c, l, hbb, hl, rfl⟩
  · cases hbb
  obtain rfl := Option.some.inj hbb
  obtain ⟨ces, hh, hlen, hces, hst, hbs⟩ := hR.mapS hb hl
  have hck := checkKey_ok (w := w) hT hrk hk hf false
  have hces' : ∀ (j : Nat) (k v : Value), es[j]? = some (k, v) → ∃ e : MapEntry, ces.toList[j]? = some e ∧ VR m k e.key ∧ VR m v e.val := fun j k v hj => by simpa using hces j k v hj
  rcases afind_ok hk hf es ces.toList 0 (by simpa using hlen) hces' hau with ⟨rfl, h2⟩ | ⟨u, j, u', rfl, h2, h3, hj, ⟨a, h5, h6⟩, h7⟩
  · have hfk := findKey_ok (w := w) hT hrk h2
    refine ⟨setB w l.blk (.map (ces.push ⟨k', v', clock⟩) (clock + 1)), ?_, hR.wrote hb hl setB_same (fun q hq => setB_far hq) (BR.mapI (setB_at hh) (by rw [aupd_none es hau]; simp [hlen]) (fun i q u hi => ?_) (MapKept.stamped_push hst fun x hx => ?_) (by simp [hbs])) _⟩
    · simp [Instr.mapUpdate, hu, he, run_getMap hh, hck, hfk, run_setMap hh]
    rotate_left
    · obtain ⟨i, hi, rfl⟩ := List.getElem_of_mem hx
      have hi' : i < es.length := by simpa [hlen] using hi
      obtain ⟨e, e1, e2, _⟩ := hces i es[i].1 es[i].2 (List.getElem?_eq_getElem hi')
      have : ces.toList[i] = e := by
        have h9 : ces[i]? = some ces.toList[i] := by simp
        rw [h9] at e1; exact Option.some.inj e1
      rw [this]
      exact keyEq_other (afind_no hau i es[i].1 es[i].2 (List.getElem?_eq_getElem hi')) hk e2
    · rw [aupd_none es hau] at hi
      by_cases e : i < es.length
      · rw [List.getElem?_append_left e] at hi
        obtain ⟨en, g1, g2⟩ := hces i q u hi
        exact ⟨en, by rw [Array.getElem?_push, if_neg (by omega)]; exact g1, g2⟩
      · rw [List.getElem?_append_right (by omega)] at hi
        have : i = es.length := by
          have := (List.getElem?_eq_some_iff.1 hi).1
          simp at this; omega
        subst this
        simp at hi
        obtain ⟨rfl, rfl⟩ := hi
        exact ⟨⟨k', v', clock⟩, by rw [Array.getElem?_push, if_pos hlen.symm], hk, hv⟩
  · have hfk := findKey_ok (w := w) hT hrk h2
    rw [Nat.zero_add] at hfk
    obtain ⟨en, g1, g2, g3⟩ := hces j a u h5
    have hsb := sameBits_key h6 hk g2
    have hjs : j < ces.size := by omega
    have hst' : (Instr.keyThatStays (((ces[j]?).map (·.key)).getD k') k').run P w = .ok k' w := by
      rw [g1]
      simp [Instr.keyThatStays, hsb]
    refine ⟨setB w l.blk (.map (ces.modify j fun e => { e with key := k', val := v' }) clock), ?_, hR.wrote hb hl setB_same (fun q hq => setB_far hq) (BR.mapI (setB_at hh) (by rw [aupd_at es j ⟨a, h5, h6⟩ h7]; simp [hlen]) (fun i q u2 hi => ?_) (MapKept.stamped_modify hst j (fun e => { e with key := k', val := v' }) (fun _ _ => rfl) fun e _ q => ?_) (by rw [← hbs]; exact born_modify ces j _ fun _ => rfl)) _⟩
    · simp [Instr.mapUpdate, hu, he, run_getMap hh, hck, hfk, hst', run_setMap hh]
    rotate_left
    · rw [g1] at q
      obtain rfl := Option.some.inj q
      exact (keyEq_same h6 hk g2).symm
    · rw [aupd_at es j ⟨a, h5, h6⟩ h7] at hi
      by_cases e : i = j
      · subst e
        rw [List.getElem?_set_self (by omega)] at hi
        simp at hi
        obtain ⟨rfl, rfl⟩ := hi
        exact ⟨{ en with key := k', val := v' }, by rw [Array.getElem?_modify, if_pos rfl, g1]; rfl, hk, hv⟩
      · rw [List.getElem?_set_ne (Ne.symm e)] at hi
        obtain ⟨en', g4, g5⟩ := hces i q u2 hi
        exact ⟨en', by rw [Array.getElem?_modify, if_neg (Ne.symm e)]; exact g4, g5⟩

theorem xDelete_ok (hT : TabOk P T) (hR : R base m H w) {ts : Array TypeId} {as : Array Value} {t ty : TypeId} {b : Nat} {k x' k' : Value} {o : Out} {H1 : AHeap} {id : Nat} (h : xDelete T H t b k = some (o, H1)) (h0 : ts[0]? = some t) (h2 : as[0]? = some x') (h3 : as[1]? = some k')
    (hx : VR m (.map (some b)) x') (hk : VR m k k') : ∃ v, o = .val v ∧ Mem P base m H w (Builtin.delete_ ts ty as) v H1 id := by
  unfold xDelete at h
  split at h
  case h_2 => cases h
  rename_i r es bs clock hr hb
  have hu := hT.und hr w
  split at h
  case h_2 => cases h
  rename_i kt et he
  split at h
  case h_2 => cases h
  rename_i rk hrk
  split at h
  · cases h
  rename_i hf
  simp only [Bool.not_eq_true', Bool.not_eq_false] at hf
  obtain ⟨fnd, hau, ho, hH⟩ : ∃ fnd, afind k es = some fnd ∧ o = .val (.tuple #[]) ∧ H1 = H.put b (some (match fnd with | none => .map es bs clock | some _ => .map (adel k es) (adelB k es bs) clock)) := by
    split at h
    · rename_i hau; obtain ⟨rfl, rfl⟩ := Prod.mk.inj (Option.some.inj h); exact ⟨none, hau, rfl, rfl⟩
    · rename_i u hau; obtain ⟨rfl, rfl⟩ := Prod.mk.inj (Option.some.inj h); exact ⟨some u, hau, rfl, rfl⟩
    · cases h
  subst hH
  refine ⟨_, ho, ?_⟩
  rcases hx.map_inv with ⟨hbb, _⟩ | ⟨c, l, hbb, hl, rfl⟩
  · cases hbb
  obtain rfl := Option.some.inj hbb
  obtain ⟨ces, hh, hlen, hces, hst, hbs⟩ := hR.mapS hb hl
  have hck := checkKey_ok (w := w) hT hrk hk hf ces.isEmpty
  have hces' : ∀ (j : Nat) (k v : Value), es[j]? = some (k, v) → ∃ e : MapEntry, ces.toList[j]? = some e ∧ VR m k e.key ∧ VR m v e.val := fun j k v hj => by simpa using hces j k v hj
  rcases afind_ok hk hf es ces.toList 0 (by simpa using hlen) hces' hau with ⟨rfl, h4⟩ | ⟨u, j, u', rfl, h4, h5, hj, ⟨a, h6, h7⟩, h8⟩
  · have hfk := findKey_ok (w := w) hT hrk h4
    refine ⟨m, setB w l.blk (.map ces clock), .tuple #[], ?_, VR.tuple' (.nil m), hR.wrote hb hl setB_same (fun q hq => setB_far hq) (BR.mapI (setB_at hh) hlen (fun i q u hi => ?_) hst hbs) _⟩
    · simp [Builtin.delete_, h0, h2, h3, hu, he, run_getMap hh, hck, hfk, run_setMap hh]
    · exact hces i q u hi
  · have hfk := findKey_ok (w := w) hT hrk h4
    rw [Nat.zero_add] at hfk
    have hjs : j < ces.size := by omega
    have her : ces.eraseIdxIfInBounds j = ces.eraseIdx j hjs := by simp [Array.eraseIdxIfInBounds, hjs]
    refine ⟨m, setB w l.blk (.map (ces.eraseIdxIfInBounds j) clock), .tuple #[], ?_, VR.tuple' (.nil m), hR.wrote hb hl setB_same (fun q hq => setB_far hq) (BR.mapI (setB_at hh) ?_ (fun i q u2 hi => ?_) (MapKept.stamped_erase hst j) ?_) _⟩
    · simp [Builtin.delete_, h0, h2, h3, hu, he, run_getMap hh, hck, hfk, run_setMap hh]
    · rw [adel_at es j ⟨a, h6, h7⟩ h8, her]
      simp [List.length_eraseIdx, hj, hlen]
    · rw [adel_at es j ⟨a, h6, h7⟩ h8, List.getElem?_eraseIdx] at hi
      rw [her, Array.getElem?_eraseIdx]
      split at hi
      · rename_i e
        rw [if_pos e]
        exact hces i q u2 hi
      · rename_i e
        rw [if_neg e]
        exact hces (i + 1) q u2 hi
    · rw [adelB_at es bs j ⟨a, h6, h7⟩ h8 (by rw [← hbs]; simp [hlen]), her, ← hbs, Array.toList_eraseIdx]
      exact map_eraseIdx' _ _ _

/-! a text ranged over -/
theorem xRange_ok (hT : TabOk P T) (hR : R base m H w) (hb : base ≤ w.heap.size) {id : Nat} (hid : m id = none) {t : TypeId} {x x' : Value} {o : Out} {H1 : AHeap} (h : xRange T id H t (some x) = some (o, H1)) (hx : VR m x x') :
    ∃ v, o = .val v ∧ Mem P base m H w (Instr.range t x') v H1 id := by
  unfold xRange at h
  split at h
  · rename_i s e1
    obtain rfl := Option.some.inj e1
    cases hx
    split at h
    case h_2 => cases h
    rename_i r hr
    have hu := hT.und hr w
    split at h
    case h_2 => cases h
    rename_i he
    obtain ⟨rfl, rfl⟩ := Prod.mk.inj (Option.some.inj h)
    exact ⟨_, rfl, m.put id ⟨w.heap.size, 0, none⟩, w.alloc (.stringIter s 0), .pointer (some ⟨w.heap.size, 0, none⟩), by simp [Instr.range, hu, he], by simpa using VR.ptr (o := 0) (Mu.put_at m id ⟨w.heap.size, 0, none⟩), hR.new hb hid rfl ⟨rfl, alloc_new _ _⟩⟩
  · rename_i mb e1
    obtain rfl := Option.some.inj e1
    split at h
    case h_2 => cases h
    rename_i r hr
    have hu := hT.und hr w
    split at h
    case h_2 => cases h
    rename_i kt et he
    split at h
    · obtain ⟨rfl, rfl⟩ := Prod.mk.inj (Option.some.inj h)
      rcases hx.map_inv with ⟨_, rfl⟩ | ⟨c, l, q, _⟩
      · exact ⟨_, rfl, m.put id ⟨w.heap.size, 0, none⟩, w.alloc (.mapIter none 0 #[] 0), .pointer (some ⟨w.heap.size, 0, none⟩), by simp [Instr.range, hu, he], by simpa using VR.ptr (o := 0) (Mu.put_at m id ⟨w.heap.size, 0, none⟩), hR.new hb hid (B := .mit none 0 [] 0) rfl ⟨none, ⟨rfl, .inl ⟨rfl, rfl⟩⟩, alloc_new _ _⟩⟩
      · cases q
    · rename_i b
      split at h
      case h_2 => cases h
      rename_i es bs clk hb'
      obtain ⟨rfl, rfl⟩ := Prod.mk.inj (Option.some.inj h)
      rcases hx.map_inv with ⟨q, _⟩ | ⟨c, l, q, hl, rfl⟩
      · cases q
      · obtain rfl := Option.some.inj q
        obtain ⟨ces, hh, _⟩ := hR.mapS hb' hl
        exact ⟨_, rfl, m.put id ⟨w.heap.size, 0, none⟩, w.alloc (.mapIter (some l.blk) clk #[] clk), .pointer (some ⟨w.heap.size, 0, none⟩), by simp [Instr.range, hu, he, run_getMap hh], by simpa using VR.ptr (o := 0) (Mu.put_at m id ⟨w.heap.size, 0, none⟩), hR.new hb hid (B := .mit (some b) clk [] clk) rfl ⟨some l.blk, ⟨rfl, .inr ⟨b, l, rfl, Mu.le_put hid _ _ hl, rfl⟩⟩, alloc_new _ _⟩⟩
  · cases h
theorem val_inv' {x : Option Value} {out : Out} {H1 : AHeap} (h : val H x = some (out, H1)) : ∃ v, x = some v ∧ out = .val v ∧ H1 = H := by
  unfold val at h
  split at h
  · obtain ⟨rfl, rfl⟩ := Prod.mk.inj (Option.some.inj h)
    exact ⟨_, rfl, rfl, rfl⟩
  · cases h
theorem memN_iff {x : Nat} : ∀ {l : List Nat}, memN x l = l.contains x
  | [] => rfl
  | y :: l => by
    have : Nat.beq x y = (x == y) := by
      cases hq : Nat.beq x y
      · symm
        rw [beq_eq_false_iff_ne]
        intro e
        subst e
        rw [Nat.beq_refl] at hq; cases hq
      · symm
        rw [beq_iff_eq]
        exact Nat.eq_of_beq_eq_true hq
    rw [memN, this, memN_iff (l := l), List.contains_cons]
theorem left_ok {seen : List Nat} : ∀ (es : List (Value × Value)) (bs : List Nat) (cs : List MapEntry), es.length = cs.length → cs.map (·.born) = bs → (∀ (i : Nat) (k v : Value), es[i]? = some (k, v) → ∃ e : MapEntry, cs[i]? = some e ∧ VR m k e.key ∧ VR m v e.val) →
    (leftOf seen es bs).length = (cs.filter fun e => !seen.contains e.born).length ∧ ∀ (i : Nat) (k v : Value) (n : Nat), (leftOf seen es bs)[i]? = some (k, v, n) → ∃ e : MapEntry, (cs.filter fun e => !seen.contains e.born)[i]? = some e ∧ e.born = n ∧ VR m k e.key ∧ VR m v e.val
  | [], bs, cs, hl, hb, _ => by
    obtain rfl : cs = [] := List.eq_nil_of_length_eq_zero hl.symm
    subst hb
    exact ⟨rfl, fun i k v n h => by simp [leftOf] at h⟩
  | (k0, v0) :: es, bs, [], hl, _, _ => by simp at hl
  | (k0, v0) :: es, bs, c :: cs, hl, hb, hv => by
    subst hb
    have ih := left_ok (seen := seen) es (cs.map (·.born)) cs (by simpa using hl) rfl (fun i k v h => by simpa using hv (i + 1) k v (by simpa using h))
    obtain ⟨e, he, h1, h2⟩ := hv 0 k0 v0 rfl
    simp at he; subst he
    simp only [List.map_cons, leftOf, memN_iff, List.filter_cons]
    cases hc : seen.contains c.born
    · simp only [Bool.not_false, if_true, Bool.false_eq_true, if_false, List.length_cons]
      refine ⟨by rw [ih.1], fun i k v n h => ?_⟩
      cases i with
      | zero => simp at h; obtain ⟨rfl, rfl, rfl⟩ := h; exact ⟨c, rfl, rfl, h1, h2⟩
      | succ i => simpa using ih.2 i k v n (by simpa using h)
    · simp only [Bool.not_true, Bool.false_eq_true, if_false, if_true]
      exact ih
theorem xNextM_ok (hR : R base m H w) {x x' : Value} {o : Out} {H1 : AHeap} {id : Nat} {t : TypeId} (h : xNextM H (some x) = some (o, H1)) (hx : VR m x x') :
    ∃ v, o = .val v ∧ Mem P base m H w (Instr.next x' false t) v H1 id := by
  unfold xNextM at h
  split at h
  case h_2 => cases h
  rename_i i e1
  obtain rfl := Option.some.inj e1
  obtain ⟨l, hl, rfl⟩ := hx.ptr_inv
  split at h
  · rename_i a s la hb
    obtain ⟨v, hv, rfl, rfl⟩ := val_inv' h
    obtain ⟨mb', ⟨h0, hor⟩, hB⟩ := (hR.at hb hl).2
    rcases hor with ⟨_, rfl⟩ | ⟨b, k, q, _⟩
    · have hget : (getObj l.blk).run P w = .ok (.mapIter none a s.toArray la) w := by simp [getObj, Sem.run, hB]
      obtain rfl := Option.some.inj hv
      exact ⟨_, rfl, m, w, .tuple #[.bool false], by simp [Instr.next, h0, hget], VR.tuple' (.cons (.bool _) (.nil m)), Stp.refl hR _⟩
    · cases q
  · rename_i b since seen last hb
    obtain ⟨mb', ⟨h0, hor⟩, hB⟩ := (hR.at hb hl).2
    rcases hor with ⟨q, _⟩ | ⟨b', k, q, hk, rfl⟩
    · cases q
    obtain rfl := Option.some.inj q
    split at h
    case h_2 => cases h
    rename_i es bs clk hmb
    obtain ⟨ces, hh, hlen, hces, hst, hbs⟩ := hR.mapS hmb hk
    have hget : (getObj l.blk).run P w = .ok (.mapIter (some k.blk) since seen.toArray last) w := by simp [getObj, Sem.run, hB]
    have hgm : (getObj k.blk).run P w = .ok (.map ces clk) w := run_getMap hh
    split at h
    · cases h
    rename_i hcond
    have hall : ces.all (fun e => decide (e.born ≥ last)) = bs.all (fun n => Nat.ble last n) := by
      rw [← hbs, ← Array.all_toList, List.all_map]
      congr 1
      funext e
      simp only [Function.comp]
      cases hq : Nat.ble last e.born
      · rw [decide_eq_false_iff_not]; intro z; rw [Nat.ble_eq_true_of_le z] at hq; cases hq
      · rw [decide_eq_true_eq]; exact Nat.le_of_ble_eq_true hq
    have hemp : ces.isEmpty = es.isEmpty := by
      cases es with
      | nil => simp [Array.isEmpty, hlen]
      | cons a b => simp [Array.isEmpty, hlen]
    have hcond' : ¬ (!seen.toArray.isEmpty && !ces.isEmpty && ces.all fun e => decide (e.born ≥ last)) = true := by
      rw [hall, hemp]
      simpa using hcond
    obtain ⟨hl1, hl2⟩ := left_ok (seen := seen) es bs ces.toList (by simpa using hlen.symm) hbs (fun i k v hi => by simpa using hces i k v hi)
    have hfil : ces.filter (fun e => !seen.toArray.contains e.born) = (ces.toList.filter fun e => !seen.contains e.born).toArray := by
      apply Array.ext'
      simp [Array.toList_filter]
    split at h
    · rename_i hleft
      obtain ⟨v, hv, rfl, rfl⟩ := val_inv' h
      obtain rfl := Option.some.inj hv
      rw [hleft] at hl1
      have hnil : ces.toList.filter (fun e => !seen.contains e.born) = [] := List.eq_nil_of_length_eq_zero hl1.symm
      refine ⟨_, rfl, m, w, .tuple #[.bool false], ?_, VR.tuple' (.cons (.bool _) (.nil m)), Stp.refl hR _⟩
      have hf : (Question.mapNext 1).forced = true := rfl
      simp only [Instr.next, h0, Sem.run_bind, hget, hgm, Result.andThen_ok, hcond', hfil, hnil]
      simp [hf]
    · rename_i k1 v1 n1 hleft
      split at h
      case isFalse => cases h
      rename_i hlt
      obtain ⟨rfl, rfl⟩ := Prod.mk.inj (Option.some.inj h)
      rw [hleft] at hl1 hl2
      obtain ⟨e, he, hbn, g1, g2⟩ := hl2 0 k1 v1 n1 rfl
      have hone : ces.toList.filter (fun e => !seen.contains e.born) = [e] := by
        obtain ⟨e', he'⟩ := List.length_eq_one_iff.1 hl1.symm
        rw [he'] at he ⊢
        simp at he
        rw [he]
      have hold : e.born < since := by rw [hbn]; simpa [Nat.blt_eq] using hlt
      have hf : (Question.mapNext 1).forced = true := rfl
      have hset : ∀ o, (setObj l.blk o).run P w = .ok () (setB w l.blk o) := fun o => by simp [setObj, Sem.run, hB, setB]
      refine ⟨_, rfl, m, setB w l.blk (.mapIter (some k.blk) since (seen.toArray.push e.born) clk), .tuple #[.bool true, e.key, e.val], ?_, VR.tuple' (.cons (.bool _) (.cons g1 (.cons g2 (.nil m)))),
        hR.wrote hb hl setB_same (fun q hq => setB_far hq) (show BR m _ l (.mit (some b) since (seen ++ [n1]) clk) from ⟨some k.blk, ⟨h0, .inr ⟨b, k, rfl, hk, rfl⟩⟩, by rw [setB_at hB]; simp [hbn]⟩) _⟩
      simp only [Instr.next, h0, Sem.run_bind, hget, hgm, Result.andThen_ok, hcond', hfil, hone]
      have hnl : ¬ since ≤ e.born := by omega
      simp [hf, hold, hnl, hset]
    · cases h
  · cases h
theorem xNext_ok (hR : R base m H w) {x x' : Value} {o : Out} {H1 : AHeap} {id : Nat} {t : TypeId} (h : xNext H (some x) = some (o, H1)) (hx : VR m x x') :
    ∃ v, o = .val v ∧ Mem P base m H w (Instr.next x' true t) v H1 id := by
  unfold xNext at h
  split at h
  case h_2 => cases h
  rename_i b e1
  obtain rfl := Option.some.inj e1
  obtain ⟨l, hl, rfl⟩ := hx.ptr_inv
  split at h
  case h_2 => cases h
  rename_i s pos hb
  obtain ⟨h0, hB⟩ : l.off = 0 ∧ w.heap[l.blk]? = some (.stringIter s pos) := (hR.at hb hl).2
  have hget : (getObj l.blk).run P w = .ok (.stringIter s pos) w := by simp [getObj, Sem.run, hB]
  split at h
  · rename_i hp
    obtain ⟨rfl, rfl⟩ := Prod.mk.inj (Option.some.inj h)
    have hset : ∀ o, (setObj l.blk o).run P w = .ok () (setB w l.blk o) := fun o => by simp [setObj, Sem.run, hB, setB]
    exact ⟨_, rfl, m, setB w l.blk (.stringIter s (pos + (Utf8.decode s pos).2)), .tuple #[.bool true, .int .i64 pos, .int .i32 (Utf8.decode s pos).1], by simp [Instr.next, h0, hget, hp, hset, goInt], VR.tuple' (.cons (.bool _) (.cons (.int _ _) (.cons (.int _ _) (.nil m)))), hR.wrote hb hl setB_same (fun q hq => setB_far hq) (show BR m _ l (.siter s (pos + (Utf8.decode s pos).2)) from ⟨h0, setB_at hB⟩) _⟩
  · rename_i hp
    obtain ⟨rfl, rfl⟩ := Prod.mk.inj (Option.some.inj h)
    exact ⟨_, rfl, m, w, .tuple #[.bool false], by simp [Instr.next, h0, hget, hp], VR.tuple' (.cons (.bool _) (.nil m)), Stp.refl hR _⟩
end
end Go.Proofs.YtkgmpkoamicheaaGreatDoor.M
