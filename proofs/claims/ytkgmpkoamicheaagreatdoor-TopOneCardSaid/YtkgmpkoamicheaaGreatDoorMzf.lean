/- Functions of Go's library that are told by a law: the laws hold. No program in it. -/
import Derived.Test.YtkgmpkoamicheaaGreatDoorMze
import Derived.Laws.Externs
import Derived.Lib.Builder
namespace Go.Proofs.YtkgmpkoamicheaaGreatDoor.M
section
variable {P : Program}
theorem args1 {m : Mu} {x : Value} {args' : Array Value} (ha : VRs m [x] args'.toList) : ∃ x', args' = #[x'] ∧ VR m x x' := by
  obtain ⟨x', y, e1, g1, g2⟩ := ha.cons_inv
  obtain rfl := g2.nil_inv
  obtain ⟨l⟩ := args'
  simp only at e1
  subst e1
  exact ⟨x', rfl, g1⟩
theorem lawSame_ok {f : FuncId} {F : Func} (hf : P.funcs[f]? = some F) (hn : (F.name == "runtime.NumGoroutine") = false) (hb : F.body.isNone = true) (hx : Extern.findNext F = none) (he : Extern.find F = some Extern.AbiNoEscape.same) : LawOk P f lawSame := by
  intro base m H w args args' r H1 hR hb' hfr ha hk
  unfold lawSame at hk
  split at hk
  case h_2 => cases hk
  rename_i x
  obtain ⟨rfl, rfl⟩ := Prod.mk.inj (Option.some.inj hk)
  obtain ⟨x', rfl, g1⟩ := args1 ha
  rw [run_callFunc_extern hf hn hb hx he, Lib.run_noEscape]
  exact ⟨x, m, rfl, g1, Stp.refl hR _, hfr, Nat.le_refl _⟩
theorem lawCmp_ok {f : FuncId} {F : Func} (hf : P.funcs[f]? = some F) (hn : (F.name == "runtime.NumGoroutine") = false) (hb : F.body.isNone = true) (hx : Extern.findNext F = none) (he : Extern.find F = some Extern.BytealgCompare.compare) : LawOk P f lawCmp := by
  intro base m H w args args' r H1 hR hb' hfr ha hk
  unfold lawCmp at hk
  split at hk
  case h_2 => cases hk
  rename_i a b
  obtain ⟨rfl, rfl⟩ := Prod.mk.inj (Option.some.inj hk)
  obtain ⟨v', y, e1, g1, g2⟩ := ha.cons_inv
  obtain ⟨u', z, e2, g3, g4⟩ := g2.cons_inv
  obtain rfl := g4.nil_inv
  subst e2
  cases g1
  cases g3
  have e3 : args' = #[.string a, .string b] := by
    obtain ⟨l⟩ := args'
    simp only at e1
    rw [e1]
  subst e3
  rw [run_callFunc_extern hf hn hb hx he, Lib.run_compareString]
  exact ⟨_, m, rfl, .int _ _, Stp.refl hR _, hfr, Nat.le_refl _⟩
theorem lawCount_ok {f : FuncId} {F : Func} (hf : P.funcs[f]? = some F) (hn : (F.name == "runtime.NumGoroutine") = false) (hb : F.body.isNone = true) (hx : Extern.findNext F = none) (he : Extern.find F = some Extern.BytealgCount.count) : LawOk P f lawCount := by
  intro base m H w args args' r H1 hR hb' hfr ha hk
  unfold lawCount at hk
  split at hk
  case h_2 => cases hk
  rename_i a c
  obtain ⟨rfl, rfl⟩ := Prod.mk.inj (Option.some.inj hk)
  obtain ⟨v', y, e1, g1, g2⟩ := ha.cons_inv
  obtain ⟨u', z, e2, g3, g4⟩ := g2.cons_inv
  obtain rfl := g4.nil_inv
  subst e2
  cases g1
  cases g3
  have e3 : args' = #[.string a, .int .u8 c] := by
    obtain ⟨l⟩ := args'
    simp only at e1
    rw [e1]
  subst e3
  rw [run_callFunc_extern hf hn hb hx he, Lib.run_countString]
  exact ⟨_, m, rfl, .int _ _, Stp.refl hR _, hfr, Nat.le_refl _⟩
/-- a new block, at a new stamp -/
theorem new_at {base : Nat} {m : Mu} {H : AHeap} {w w' : World} (hR : R base m H w) (hb : base ≤ w.heap.size) (hf : Fresh m H.next) {l : Loc} {B : ABlk}
    (hst : m (H.next * 256) = none → Stp base m ⟨H.next + 1, H.blk⟩ w (m.put (H.next * 256) l) (AHeap.put ⟨H.next + 1, H.blk⟩ (H.next * 256) (some B)) w' (· = H.next * 256)) :
    Stp base m H w (m.put (H.next * 256) l) (AHeap.put ⟨H.next + 1, H.blk⟩ (H.next * 256) (some B)) w' (New H.next (H.next + 1)) ∧ Fresh (m.put (H.next * 256) l) (H.next + 1) := by
  have hid : m (H.next * 256) = none := by
    cases hm : m (H.next * 256) with
    | none => rfl
    | some l => exact absurd (hf _ l hm) (Nat.lt_irrefl _)
  have S := hst hid
  have hnew : ∀ i, i = H.next * 256 → New H.next (H.next + 1) i := fun i hi => by
    subst hi
    exact ⟨Nat.le_refl _, by rw [Nat.add_mul]; omega⟩
  refine ⟨⟨⟨S.ext.1, fun b l hb => (S.ext.2 b l hb).imp id fun x => ⟨x.1, hnew _ x.2⟩⟩, S.rel, ⟨S.fr.os, S.fr.tape, S.fr.output, S.fr.size, S.fr.keep⟩, S.bk⟩, fun b l hbl => ?_⟩
  rcases S.ext.2 b l hbl with h1 | ⟨_, h1⟩
  · exact Nat.lt_of_lt_of_le (hf b l h1) (Nat.mul_le_mul_right _ (Nat.le_succ _))
  · exact (hnew b h1).2
theorem lawClone_ok {f : FuncId} {F : Func} (hf : P.funcs[f]? = some F) (hn : (F.name == "runtime.NumGoroutine") = false) (hb : F.body.isNone = true) (hx : Extern.findNext F = none) (he : Extern.find F = some Extern.MapsClone.clone) : LawOk P f lawClone := by
  intro base m H w args args' r H1 hR hb' hfr ha hk
  unfold lawClone at hk
  split at hk
  case h_2 => cases hk
  rename_i t b
  split at hk
  case h_2 => cases hk
  rename_i es bs clk hbm
  obtain ⟨rfl, rfl⟩ := Prod.mk.inj (Option.some.inj hk)
  obtain ⟨x', rfl, g1⟩ := args1 ha
  cases g1
  rename_i v' g
  rcases g.map_inv with ⟨q, _⟩ | ⟨c, l, q, hl, rfl⟩
  · cases q
  obtain rfl := Option.some.inj q
  obtain ⟨ces, hh, hlen, hces, hst, hbs⟩ := hR.mapS hbm hl
  rw [run_callFunc_extern hf hn hb hx he]
  have hrun : (Extern.MapsClone.clone #[.iface t (.map (some l.blk))]).run P w = .ok (.iface t (.map (some w.heap.size))) (w.alloc (.map ces clk)) := by
    have hdef : Extern.MapsClone.clone #[.iface t (.map (some l.blk))] = (do
        let .map entries clock ← getObj l.blk | stuck "maps.clone: a map expected"
        pure (.iface t (.map (some (← newObj (.map entries clock)))))) := rfl
    rw [hdef]
    simp [run_getMap hh]
  rw [hrun]
  obtain ⟨S, F1⟩ := new_at (w' := w.alloc (.map ces clk)) (l := ⟨w.heap.size, 0, none⟩) (B := .map es bs clk) hR hb' hfr fun hid =>
    R.new (H := ⟨H.next + 1, H.blk⟩) ⟨hR.live, hR.inj⟩ hb' hid rfl (BR.mapI (alloc_new _ _) hlen (fun i k v hi => let ⟨e, a, b, c⟩ := hces i k v hi; ⟨e, a, b.mono (Mu.le_put hid), c.mono (Mu.le_put hid)⟩) hst hbs)
  exact ⟨_, _, rfl, .iface (VR.map (l := ⟨w.heap.size, 0, none⟩) (Mu.put_at _ _ _)), S, F1, Nat.le_succ _⟩

/-! sorted keys -/
theorem listLt_iff_lt : ∀ {x y : List UInt8}, listLt x y = true ↔ x < y
  | [], [] => by simp [listLt]
  | _ :: _, [] => by simp [listLt]
  | [], _ :: _ => by simp [listLt]
  | a :: x, b :: y => by
    rw [List.cons_lt_cons_iff, ← listLt_iff_lt (x := x) (y := y)]
    simp only [listLt, Bool.or_eq_true, Bool.and_eq_true, Nat.blt_eq, Tr.beq_iff, UInt8.toNat_inj]
    exact Iff.rfl
theorem insB_perm (x : List UInt8) : ∀ l, (insB x l).Perm (x :: l)
  | [] => .refl _
  | y :: l => by
    simp only [insB]
    split
    · exact ((insB_perm x l).cons y).trans (.swap x y l)
    · exact .refl _
theorem sortB_perm : ∀ l, (sortB l).Perm l
  | [] => .refl _
  | x :: l => (insB_perm x _).trans ((sortB_perm l).cons x)
theorem insB_sorted {x : List UInt8} : ∀ {l : List (List UInt8)}, l.Pairwise (fun a b => Go.leB a b = true) → (insB x l).Pairwise (fun a b => Go.leB a b = true)
  | [], _ => by simp [insB]
  | y :: l, h => by
    simp only [insB]
    obtain ⟨h1, h2⟩ := List.pairwise_cons.1 h
    split
    · rename_i hlt
      have hyx : y < x := listLt_iff_lt.1 hlt
      refine List.pairwise_cons.2 ⟨fun z hz => ?_, insB_sorted h2⟩
      rcases List.mem_cons.1 ((insB_perm x l).mem_iff.1 hz) with rfl | hz
      · simp only [Go.leB, decide_eq_true_eq]; exact List.le_of_lt hyx
      · exact h1 z hz
    · rename_i hlt
      have hxy : x ≤ y := by
        have : ¬ y < x := fun q => by rw [← listLt_iff_lt] at q; rw [q] at hlt; cases hlt
        exact List.not_lt.1 this
      refine List.pairwise_cons.2 ⟨fun z hz => ?_, h⟩
      simp only [Go.leB, decide_eq_true_eq]
      rcases List.mem_cons.1 hz with rfl | hz
      · exact hxy
      · have := h1 z hz
        simp only [Go.leB, decide_eq_true_eq] at this
        exact List.le_trans hxy this
theorem sortB_sorted : ∀ l, (sortB l).Pairwise (fun a b => Go.leB a b = true)
  | [] => .nil
  | _ :: l => insB_sorted (sortB_sorted l)
section
variable {base : Nat} {m : Mu} {H : AHeap} {w : World}
/-- a new block that lies anywhere beyond -/
theorem R.newB (h : R base m H w) (hb : base ≤ w.heap.size) {id : Nat} (hid : m id = none) {w' : World} (hs : w'.os = w.os ∧ w'.tape = w.tape ∧ w'.output = w.output ∧ w.heap.size ≤ w'.heap.size)
    (hold : ∀ i, i < w.heap.size → w'.heap[i]? = w.heap[i]?) {l : Loc} {B : ABlk} (hl : w.heap.size ≤ l.blk) (hB : BR (m.put id l) w' l B) : Stp base m H w (m.put id l) (H.put id (some B)) w' (· = id) := by
  have hle := Mu.le_put (l := l) hid
  refine ⟨Ext.put hid, ⟨fun b C hb' => ?_, fun b c C D k k' h1 h2 h3 h4 h5 => ?_⟩, ⟨hs.1, hs.2.1, hs.2.2.1, hs.2.2.2, fun i hi _ => hold i hi⟩, fun b C k h1 h2 => ?_⟩
  · rw [AHeap.get_put] at hb'
    split at hb'
    · rename_i e; subst e
      obtain rfl := Option.some.inj hb'
      exact ⟨l, Mu.put_at _ _ _, by omega, hB⟩
    · obtain ⟨k, hk, h1, h2⟩ := h.live b C hb'
      exact ⟨k, hle _ _ hk, h1, (h2.mono hle).same (hold _ h2.lt)⟩
  · rw [AHeap.get_put] at h1 h2
    have other : ∀ {b : Nat} {C : ABlk} {k : Loc}, b ≠ id → H.get b = some C → (m.put id l) b = some k → k.blk < w.heap.size := fun {b C k} hne hC hk => by
      have : m b = some k := by simpa [Mu.put, hne] using hk
      exact (h.at hC this).2.lt
    by_cases e1 : b = id <;> by_cases e2 : c = id
    · rw [e1, e2]
    · rw [if_neg e2] at h2
      have := other e2 h2 h4
      subst e1
      rw [Mu.put_at] at h3
      obtain rfl := Option.some.inj h3
      omega
    · rw [if_neg e1] at h1
      have := other e1 h1 h3
      subst e2
      rw [Mu.put_at] at h4
      obtain rfl := Option.some.inj h4
      omega
    · rw [if_neg e1] at h1
      rw [if_neg e2] at h2
      have h3' : m b = some k := by simpa [Mu.put, e1] using h3
      have h4' : m c = some k' := by simpa [Mu.put, e2] using h4
      exact h.inj b c C D k k' h1 h2 h3' h4' h5
  · rw [AHeap.get_put] at h1
    split at h1
    · rename_i e; subst e
      rw [Mu.put_at] at h2
      obtain rfl := Option.some.inj h2
      exact .inl (by omega)
    · rename_i e
      have h2' : m b = some k := by simpa [Mu.put, e] using h2
      exact .inr ⟨b, C, k, h1, h2', rfl⟩

end
theorem strKeysOf_get : ∀ {es : List (Value × Value)} {ks : List (List UInt8)}, strKeysOf es = some ks → es.length = ks.length ∧ ∀ (i : Nat) (k v : Value), es[i]? = some (k, v) → ∃ s : ByteArray, k = .string s ∧ ks[i]? = some s.data.toList
  | [], ks, h => by obtain rfl := Option.some.inj h; exact ⟨rfl, fun i k v hi => by simp at hi⟩
  | (a, b) :: l, ks, h => by
    unfold strKeysOf at h
    split at h
    · cases ‹_ = ([] : List (Value × Value))›
    · rename_i s u l' e
      obtain ⟨e1, rfl⟩ := List.cons.inj e
      obtain ⟨rfl, rfl⟩ := Prod.mk.inj e1
      split at h
      · rename_i ks' hk
        obtain rfl := Option.some.inj h
        obtain ⟨h1, h2⟩ := strKeysOf_get hk
        refine ⟨by simp [h1], fun i k v hi => ?_⟩
        cases i with
        | zero => simp at hi; exact ⟨s, hi.1.symm, rfl⟩
        | succ i => simpa using h2 i k v (by simpa using hi)
      · cases h
    · cases h
theorem sortB_eq {ss ks : List (List UInt8)} (h : ss.Perm ks) : ss.mergeSort Go.leB = sortB ks := by
  rw [mergeSort_of_perm (h.trans (sortB_perm ks).symm)]
  exact List.mergeSort_of_pairwise (sortB_sorted ks)
/-- slices.Sorted at what maps.Keys handed back -/
def SortedKeys (P : Program) (f kf : FuncId) (e : TypeId) : Prop :=
  (∀ (W : World) (c b : Nat) (ces : Array MapEntry) (clk : Nat) (ks : List (List UInt8)), W.cell? ⟨c, 0, none⟩ = some (.map (some b)) → W.heap[b]? = some (.map ces clk) → MapKept.Stamped ces clk → ks.length ≤ 100000 →
    ces.toList.map (·.key) = ks.map (fun k => Value.string ⟨⟨k⟩⟩) → (∀ k ∈ ks, k.length ≤ 100000) →
    Calls P f #[.func (.func kf) #[] #[.pointer (some ⟨c, 0, none⟩)]] W fun e' w' => ∃ (v : Value) (ss : List (List UInt8)), e' = .returned v ∧ ss.Perm ks ∧ w'.ownsRow W.heap.size e 1 v ss.length ((ss.mergeSort Go.leB).map encStr) ∧ (v = .slice none 0 0 ↔ ss = []) ∧ RowKit.Below W.heap.size W w') ∧
  ∀ (W : World) (c : Nat), W.cell? ⟨c, 0, none⟩ = some (.map none) → Calls P f #[.func (.func kf) #[] #[.pointer (some ⟨c, 0, none⟩)]] W fun e' w' => e' = .returned (.slice none 0 0) ∧ RowKit.Below W.heap.size W w'
theorem lawSorted_ok {f kf : FuncId} {e : TypeId} {F : Func} {c : Code} (hf : P.funcs[f]? = some F) (hb : F.body = some c) (hn : (F.name == "runtime.NumGoroutine") = false) (hS : SortedKeys P f kf e) : LawOk P f (lawSorted kf e) := by
  intro base m H w args args' r H1 hR hb' hfr ha hk
  unfold lawSorted at hk
  split at hk
  case h_2 => cases hk
  rename_i k c
  split at hk
  case h_2 => cases hk
  rename_i n t el hkf hc
  have hkf' : k = kf := Nat.eq_of_beq_eq_true hkf
  subst hkf'
  obtain ⟨x', rfl, g1⟩ := args1 ha
  obtain ⟨l, hl, rfl⟩ : ∃ l, m c = some l ∧ x' = .func (.func k) #[] #[.pointer (some ⟨l.blk, l.off, none⟩)] := by
    cases g1
    rename_i x' y' hq h1 h2 h3 h4
    have hx : x' = #[] := by apply Array.eq_empty_of_size_eq_zero; simpa using h1.symm
    have hy : y'.size = 1 := by simpa using h3.symm
    obtain ⟨l, hl, hv⟩ := (h4 0 (by simp) (by omega)).ptr_inv
    refine ⟨l, hl, ?_⟩
    subst hx
    have : y' = #[y'[0]] := by
      apply Array.ext
      · simp [hy]
      · intro i h5 h6
        have : i = 0 := by simp at h6; omega
        subst this
        rfl
    rw [this, hv]
    simp
  obtain ⟨_, hfin, cs, hcs, hoff, hsz⟩ := hR.at hc hl
  rw [hoff]
  split at hk
  case h_2 => cases hk
  rename_i v hv
  obtain ⟨u, u', hu1, hu2, hu3, _⟩ := hcs.2.2 0 (Nat.succ_pos _)
  rw [hv] at hu1
  obtain rfl := Option.some.inj hu1
  obtain ⟨fz, hh, _⟩ := hcs.1
  have hcell : w.cell? ⟨l.blk, 0, none⟩ = some u' := by
    rw [hoff] at hu2
    simpa [World.cell?, hh] using hu2
  rw [run_enter hf hb hn]
  have nil_case : ∀ {v : Value}, v = .slice none 0 0 → ∀ {w' : World}, RowKit.Below w.heap.size w w' → CallPost base m H w (.ret (.slice none 0 0)) H (.returned v) w' := fun {v} hv {w'} hb => by
    subst hv
    exact ⟨_, m, rfl, .nils 0 0, Stp.of_below hR hb _, hfr, Nat.le_refl _⟩
  unfold keysOf at hk
  split at hk
  · -- none
    rename_i hks
    obtain ⟨rfl, rfl⟩ := Prod.mk.inj (Option.some.inj hk)
    split at hks
    · rcases hu3.map_inv with ⟨_, rfl⟩ | ⟨c2, l2, q, _⟩
      · refine Calls.mono (hS.2 w l.blk hcell) fun e' w' he' => ?_
        obtain ⟨rfl, hb2⟩ := he'
        exact nil_case rfl hb2
      · cases q
    · rename_i b
      rcases hu3.map_inv with ⟨q, _⟩ | ⟨c2, l2, q, hl2, rfl⟩
      · cases q
      obtain rfl := Option.some.inj q
      split at hks
      case h_2 => cases hks
      rename_i es bs clk hbm
      obtain ⟨ces, hm1, hm2, hm3, hm4, _⟩ := hR.mapS hbm hl2
      obtain ⟨h1, _⟩ := strKeysOf_get hks
      have hce : ces = #[] := by apply Array.eq_empty_of_size_eq_zero; rw [hm2, h1]; rfl
      refine Calls.mono (hS.1 w l.blk l2.blk ces clk [] hcell hm1 hm4 (by decide) (by simp [hce]) (by simp)) fun e' w' he' => ?_
      obtain ⟨v, ss, rfl, hp, _, hnil, hb2⟩ := he'
      exact nil_case (hnil.2 hp.eq_nil) hb2
    · cases hks
  · rename_i ks hne hks
    split at hk
    case isFalse => cases hk
    rename_i hsh
    obtain ⟨rfl, rfl⟩ := Prod.mk.inj (Option.some.inj hk)
    split at hks
    · obtain rfl := Option.some.inj hks
      exact absurd rfl hne
    · rename_i b
      rcases hu3.map_inv with ⟨q, _⟩ | ⟨c2, l2, q, hl2, rfl⟩
      · cases q
      obtain rfl := Option.some.inj q
      split at hks
      case h_2 => cases hks
      rename_i es bs clk hbm
      obtain ⟨ces, hm1, hm2, hm3, hm4, _⟩ := hR.mapS hbm hl2
      obtain ⟨h1, h2⟩ := strKeysOf_get hks
      simp only [shortKs, Bool.and_eq_true, List.all_eq_true] at hsh
      have hkeys : ces.toList.map (·.key) = ks.map (fun k => Value.string ⟨⟨k⟩⟩) := by
        apply List.ext_getElem?
        intro i
        rcases Nat.lt_or_ge i es.length with hi | hi
        · obtain ⟨e, e1, e2, _⟩ := hm3 i es[i].1 es[i].2 (List.getElem?_eq_getElem hi)
          obtain ⟨s, s1, s2⟩ := h2 i es[i].1 es[i].2 (List.getElem?_eq_getElem hi)
          rw [s1] at e2
          have hek : e.key = .string s := by
            generalize e.key = z at e2
            cases e2; rfl
          have e1' : ces.toList[i]? = some e := by simpa using e1
          rw [List.getElem?_map, List.getElem?_map, e1', s2]
          simp [hek]
        · rw [List.getElem?_eq_none (by simp; omega), List.getElem?_eq_none (by simp; omega)]
      refine Calls.mono (hS.1 w l.blk l2.blk ces clk ks hcell hm1 hm4 (Nat.le_of_ble_eq_true hsh.1) hkeys (fun k hk => Nat.le_of_ble_eq_true (hsh.2 k hk))) fun e' w' he' => ?_
      obtain ⟨v, ss, rfl, hp, hrow, hnil, hb2⟩ := he'
      have hlen := hp.length_eq
      have hss : ss ≠ [] := fun q => hne (by subst q; exact hp.symm.eq_nil)
      rw [sortB_eq hp] at hrow
      rcases hrow.2 with ⟨q, _⟩ | ⟨g, cap, cur, rfl, hg, hcur, hnc, hcm, hcs2, htk⟩
      · exact absurd (hnil.1 q) hss
      have hsl : (sortB ks).length = ks.length := (sortB_perm ks).length_eq
      obtain ⟨S, F1⟩ := new_at (w' := w') (l := ⟨g, 0, some (1, cap)⟩) (B := .cells ks.length (Tr.emp.putAll 0 ((sortB ks).map fun k => .string ⟨⟨k⟩⟩)) e (some 1)) hR hb' hfr fun hid =>
        R.newB (H := ⟨H.next + 1, H.blk⟩) (w' := w') ⟨hR.live, hR.inj⟩ hb' hid ⟨hb2.os, hb2.tape, hb2.output, hb2.size⟩ (fun i hi => hb2.block i hi) hg
          ⟨cap, cur, rfl, ⟨⟨(0, 0), hcur, fun i _ => by simp⟩, by simp only [hcs2]; omega, fun i hi => by
            have hi2 : i < (sortB ks).length := by omega
            refine ⟨.string ⟨⟨(sortB ks)[i]⟩⟩, .string ⟨⟨(sortB ks)[i]⟩⟩, ?_, ?_, .string _, rfl⟩
            · rw [Tr.get_putAll]
              simp [hi2]
            · have h9 : (cur.toList.take (ss.length * 1))[i]? = some (encStr (sortB ks)[i]) := by rw [htk]; simp [hi2]
              rw [List.getElem?_take, if_pos (by omega)] at h9
              simpa using h9⟩, by simp only; omega, by omega⟩
      refine ⟨_, _, rfl, ?_, S, F1, Nat.le_succ _⟩
      rw [hlen]
      exact .slg (l := ⟨g, 0, some (1, cap)⟩) (Mu.put_at _ _ _) rfl (Nat.le_refl _) (by omega) (.inr ⟨rfl, by simp⟩)
    · cases hks
  · cases hk
/-- a law out of a contract of a function with a body -/
theorem LawOk.of_calls {f : FuncId} {F : Func} {c : Code} (hf : P.funcs[f]? = some F) (hb : F.body = some c) (hn : (F.name == "runtime.NumGoroutine") = false) {k : List Value → AHeap → Option (Ret × AHeap)}
    (h : ∀ base m H w args (args' : Array Value) r H1, R base m H w → base ≤ w.heap.size → Fresh m H.next → VRs m args args'.toList → k args H = some (r, H1) → Calls P f args' w (CallPost base m H w r H1)) : LawOk P f k := by
  intro base m H w args args' r H1 hR hb' hfr ha hk
  rw [run_enter hf hb hn]
  exact h base m H w args args' r H1 hR hb' hfr ha hk
theorem setCell_eq (w : World) (b o : Nat) (v : Value) : w.setCells b o [v] = w.setCell ⟨b, o, none⟩ v := rfl
theorem setCell_same (w : World) (b o : Nat) (v : Value) : (w.setCell ⟨b, o, none⟩ v).os = w.os ∧ (w.setCell ⟨b, o, none⟩ v).tape = w.tape ∧ (w.setCell ⟨b, o, none⟩ v).output = w.output ∧ (w.setCell ⟨b, o, none⟩ v).heap.size = w.heap.size := setCells_same b [v] o w
end
end Go.Proofs.YtkgmpkoamicheaaGreatDoor.M
