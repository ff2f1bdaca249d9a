/- The quick way's answers are the program's: append, all ways. No program in it. -/
import Derived.Test.YtkgmpkoamicheaaGreatDoorMq
namespace Go.Proofs.YtkgmpkoamicheaaGreatDoor.M
section
variable {P : Program} {T : Tab} {base : Nat} {m : Mu} {H : AHeap} {w : World}

/-- an append that goes on in the same row: the row gets a new name, the old one is forgotten -/
theorem grown_on (hR : R base m H w) {id b o n k kk sz f o' : Nat} (hid : m id = none) {e : TypeId} {l : Loc} {tr : Tr Value} (hb : H.get b = some (.cells kk tr e (some sz))) (hl : m b = some l) (hfin : l.fin = some (sz, f))
    {old old' new new' : List Value} (hold : VRs m old old') (h1o : ∀ v ∈ old, one v = true) (hnew : VRs m new new') (h1n : ∀ v ∈ new, one v = true) (hol : old.length = n * sz) (hnl : new.length = k * sz)
    (ho' : o' = l.off + o) (hcell : ∀ j v, old'[j]? = some v → w.cell? ⟨l.blk, o' + j, none⟩ = some v) {c' : Nat} (hc' : n + k ≤ c') (hbd : o' + c' * sz ≤ f) :
    (storeCells ⟨l.blk, o' + n * sz, none⟩ new').run P w = .ok () (w.setCells l.blk (o' + n * sz) new') ∧
    Stp base m H w (m.put id ⟨l.blk, o', some (sz, f)⟩) ((H.put id (some (.cells ((n + k) * sz) (Tr.emp.putAll 0 (old ++ new)) e (some sz)))).put b none) (w.setCells l.blk (o' + n * sz) new') (· = id) ∧
    VR (m.put id ⟨l.blk, o', some (sz, f)⟩) (.slice (some ⟨id, 0, none⟩) (n + k) (n + k)) (.slice (some ⟨l.blk, o', none⟩) (n + k) c') := by
  obtain ⟨hbase, f', cs, hfin', ⟨⟨fz, hh, hz⟩, hn, hi⟩, hcf, hfs⟩ := hR.at hb hl
  rw [hfin] at hfin'
  obtain ⟨_, rfl⟩ := Prod.mk.inj (Option.some.inj hfin')
  have hmul : (n + k) * sz = n * sz + k * sz := Nat.add_mul _ _ _
  have hmul2 : (n + k) * sz ≤ c' * sz := Nat.mul_le_mul_right _ hc'
  have hlen' := hnew.1
  have holen := hold.1
  have hle := Mu.le_put (l := (⟨l.blk, o', some (sz, f)⟩ : Loc)) hid
  have hne : b ≠ id := fun e => by subst e; rw [hid] at hl; cases hl
  obtain ⟨cs', h2, h3, h4⟩ := setCells_at l.blk new' (o' + n * sz) w cs _ fz hh
  have hrun := run_storeCells_cells (P := P) l.blk (o' + n * sz) new' 0 w (fun j hj => by
      have : o' + n * sz + 0 + j < cs.size := by omega
      simp [World.cell?, hh]
      omega)
    (fun j hj => by
      have := (hz (o' + n * sz + 0 + j) (by omega)).1
      simp only [World.frozen?, hh]
      simpa using this) (hnew.one h1n)
  refine ⟨by simpa using hrun, ?_, .slg (l := ⟨l.blk, o', some (sz, f)⟩) (Mu.put_at _ _ _) rfl (Nat.le_refl _) hc' (.inr ⟨by simp, hbd⟩)⟩
  have hget : ∀ c, ((H.put id (some (.cells ((n + k) * sz) (Tr.emp.putAll 0 (old ++ new)) e (some sz)))).put b none).get c = if c = b then none else if c = id then some (.cells ((n + k) * sz) (Tr.emp.putAll 0 (old ++ new)) e (some sz)) else H.get c := fun c => by
    rw [AHeap.get_put, AHeap.get_put]
  have hfar : ∀ q, q ≠ l.blk → (w.setCells l.blk (o' + n * sz) new').heap[q]? = w.heap[q]? := fun q hq => setCells_far _ _ _ _ q hq
  have hother : ∀ {c : Nat} {C : ABlk} {q : Loc}, c ≠ b → c ≠ id → H.get c = some C → (m.put id ⟨l.blk, o', some (sz, f)⟩) c = some q → m c = some q ∧ q.blk ≠ l.blk := fun {c C q} h5 h6 h7 h8 => by
    have h9 : m c = some q := by simpa [Mu.put, h6] using h8
    exact ⟨h9, fun e => h5 (hR.inj c b C _ q l h7 hb h9 hl e)⟩
  obtain ⟨hs1, hs2, hs3, hs4⟩ := setCells_same l.blk new' (o' + n * sz) w
  refine ⟨Ext.put hid, ⟨fun c C hc => ?_, fun c d C D q q' h5 h6 h7 h8 h9 => ?_⟩, ⟨hs1, hs2, hs3, Nat.le_of_eq hs4.symm, fun i hi' hn' => hfar i fun e' => hn' b _ l hb hl e'.symm⟩, fun c C q hc hq => ?_⟩
  · rw [hget] at hc
    split at hc
    · cases hc
    · split at hc
      · rename_i e2; subst e2
        obtain rfl := Option.some.inj hc
        refine ⟨_, Mu.put_at _ _ _, hbase, f, cs', rfl, ⟨⟨fz, h2, by rw [h3]; exact hz⟩, by simp only; omega, fun i hin => ?_⟩, by simp only; omega, by omega⟩
        by_cases hio : i < n * sz
        · have hlo : i < old.length := by omega
          obtain ⟨v', g1, g2⟩ := hold.2 i old[i] (by simp [hlo])
          have hcv := hcell i v' g1
          refine ⟨old[i], v', ?_, ?_, g2.mono hle, h1o _ (List.getElem_mem hlo)⟩
          · rw [Tr.get_putAll]
            simp [List.getElem?_append_left hlo, hlo]
          · show cs'[o' + i]? = some v'
            rw [h4 (o' + i) (by omega), if_neg (by omega)]
            simpa [World.cell?, hh] using hcv
        · have hln : i - n * sz < new.length := by omega
          obtain ⟨v', g1, g2⟩ := hnew.2 (i - n * sz) new[i - n * sz] (by simp [hln])
          refine ⟨new[i - n * sz], v', ?_, ?_, g2.mono hle, h1n _ (List.getElem_mem hln)⟩
          · have : (old ++ new)[i - 0]? = some new[i - n * sz] := by
              rw [Nat.sub_zero, List.getElem?_append_right (by omega), hol]
              simp [hln]
            rw [Tr.get_putAll, if_pos (Nat.zero_le _), this]
          · show cs'[o' + i]? = some v'
            rw [h4 (o' + i) (by omega), if_pos (by omega), show o' + i - (o' + n * sz) = i - n * sz by omega]
            exact g1
      · rename_i e1 e2
        obtain ⟨q, hq, h5, h6⟩ := hR.live c C hc
        exact ⟨q, hle _ _ hq, h5, (h6.mono hle).same (hfar _ (hother e1 e2 hc (hle _ _ hq)).2)⟩
  · rw [hget] at h5 h6
    split at h5
    · cases h5
    · split at h6
      · cases h6
      · rename_i e1 e2
        split at h5 <;> split at h6
        · rename_i e3 e4; rw [e3, e4]
        · rename_i e3 e4
          have := (hother e2 e4 h6 h8).2
          subst e3
          rw [Mu.put_at] at h7
          obtain rfl := Option.some.inj h7
          exact absurd h9.symm this
        · rename_i e3 e4
          have := (hother e1 e3 h5 h7).2
          subst e4
          rw [Mu.put_at] at h8
          obtain rfl := Option.some.inj h8
          exact absurd h9 this
        · rename_i e3 e4
          exact hR.inj c d C D q q' h5 h6 (hother e1 e3 h5 h7).1 (hother e2 e4 h6 h8).1 h9
  · rw [hget] at hc
    split at hc
    · cases hc
    · split at hc
      · rename_i e2; subst e2
        rw [Mu.put_at] at hq
        obtain rfl := Option.some.inj hq
        exact .inr ⟨b, _, l, hb, hl, rfl⟩
      · rename_i e1 e2
        exact .inr ⟨c, C, q, hc, (hother e1 e2 hc hq).1, rfl⟩

theorem sliceCells_two (hR : R base m H w) {size n : Nat} {x x' : Value} {l : List Value} (h : sliceCells size n x H = some l) (hx : VR m x x') (hl : l.length = n * size) (hn : ∀ k, lenV x = some k → n ≤ k) :
    ∃ l', VRs m l l' ∧ (Builtin.firstCells size n x').run P w = .ok l'.toArray w ∧ (Builtin.firstCells size n x').run P w.drew = .ok l'.toArray w.drew ∧ (∀ b o k c, x' = .slice (some ⟨b, o, none⟩) k c → ∀ j v, l'[j]? = some v → w.cell? ⟨b, o + j, none⟩ = some v) := by
  obtain ⟨l', h1, h2, h3⟩ := sliceCells_ok (P := P) hR h hx hl hn
  obtain ⟨l2, g1, g2, g3⟩ := sliceCells_ok (P := P) hR.drew h hx hl hn
  cases x' with
  | slice a k c =>
    cases a with
    | none =>
      have e1 : l' = [] := by simp [Builtin.firstCells] at h2; simpa using h2.symm
      refine ⟨l', h1, h2, ?_, h3⟩
      subst e1
      simp [Builtin.firstCells]
    | some ad =>
      have had : ∃ b o, ad = ⟨b, o, none⟩ := by
        cases hx
        · exact ⟨_, _, rfl⟩
        · exact ⟨_, _, rfl⟩
      obtain ⟨b, o, rfl⟩ := had
      refine ⟨l', h1, h2, ?_, h3⟩
      have hcell := h3 _ _ _ _ rfl
      have hlen : l'.length = n * size := by rw [← h1.1]; exact hl
      exact run_firstCells_some (P := P) w.drew size n ⟨b, o, none⟩ k c l' hlen (fun j v hj => by rw [add_none]; exact hcell j v hj)
  | string s =>
    refine ⟨l', h1, h2, ?_, h3⟩
    simp only [Builtin.firstCells, Sem.run_pure] at h2 ⊢
    simpa using h2
  | _ => simp [Builtin.firstCells] at h2

theorem aappend_ok (hT : TabOk P T) (hR : R base m H w) (hb : base ≤ w.heap.size) {id : Nat} (hid : m id = none) {ts : Array TypeId} {as : Array Value} {t u ty : TypeId} {ru : TyRow} {s x s' x' v : Value} {H1 : AHeap}
    (h : aappend T t s x id H = some (v, H1)) (h0 : ts[0]? = some t) (h1 : ts[1]? = some u) (h2 : as[0]? = some s') (h3 : as[1]? = some x') (hru : T.get u = some ru) (hnu : ∀ q, ru.und ≠ .int q) (hs : VR m s s') (hx : VR m x x') :
    Mem P base m H w (Builtin.append_ ts ty as) v H1 id := by
  unfold aappend at h
  split at h
  · cases h
  rename_i r hr
  split at h
  case h_2 => cases h
  rename_i e a n c k he hk
  split at h
  · cases h
  rename_i re hre
  split at h
  · cases h
  rename_i new hnew
  split at h
  · cases h
  rename_i hck
  simp only [Bool.or_eq_true, bne_iff_ne, ne_eq, Bool.not_eq_true', beq_iff_eq, decide_eq_true_eq, not_or, Decidable.not_not, Option.isNone_iff_eq_none, Bool.not_eq_false, Nat.not_lt] at hck
  obtain ⟨⟨⟨⟨hnl, hno⟩, hz0⟩, hb0⟩, hbig⟩ := hck
  have h1n := allOne_mem hno
  obtain ⟨z, hz⟩ : ∃ z, re.zero = some z := by
    cases hzz : re.zero with
    | none => exact absurd hzz hz0
    | some z => exact ⟨z, rfl⟩
  have hzs : z.cells.size = re.size := (hT e re hre).2.2.2.2 z hz
  have hlen := lenV_ok (P := P) (w := w) hk hx
  obtain ⟨new', n1, n2, n3, n4⟩ := sliceCells_two (P := P) hR hnew hx hnl (fun q hq => by rw [hk] at hq; cases hq; exact Nat.le_refl _)
  split at h
  · -- there is room
    rename_i hroom
    split at h
    · -- nil
      obtain ⟨rfl, rfl⟩ := Prod.mk.inj (Option.some.inj h)
      cases hs
      have := append_room (ty := ty) (w' := w) hT h0 h1 h2 h3 hr he hre hru hnu hlen n2 hroom (by simp) (fun _ => rfl)
      exact ⟨m, w, _, this, .nils _ _, Stp.refl hR _⟩
    · rename_i b o
      obtain ⟨l, o', c', hl, rfl, hcc, hor⟩ := hs.sl_inv
      split at h
      case h_2 => cases h
      rename_i kk tr e' g hbk
      have hB := (hR.at hbk hl).2
      -- the place, if there is something to write
      have hplace : new ≠ [] → o' = l.off + o := fun hne => by
        rcases hor with ⟨_, q, _⟩ | ⟨sz, f, _, hnc, q | q⟩
        · exact q
        · exfalso
          have : k = 0 := by omega
          subst this
          simp at hnl
          exact hne hnl
        · exact q.1
      have hVR : VR m (.slice (some ⟨b, o, none⟩) (n + k) c) (.slice (some ⟨l.blk, o', none⟩) (n + k) c') := by
        rcases hor with ⟨q1, rfl, rfl⟩ | ⟨sz, f, q1, hnc, q⟩
        · exact .sl hl q1
        · exact .slg hl q1 hroom hcc q
      by_cases hne : new = []
      · subst hne
        have : new' = [] := n1.nil_inv
        subst this
        have hrun := append_room (ty := ty) (w' := w) hT h0 h1 h2 h3 hr he hre hru hnu hlen n2 (by omega) (fun a _ => rfl) (fun h => by cases h)
        have hsame : Stp base m H w m (H.put b (some (.cells kk (tr.putAll (o + n * re.size) []) e' g))) w (· = id) := hR.wrote hbk hl ⟨rfl, rfl, rfl, rfl⟩ (fun _ _ => rfl) hB _
        split at h
        · obtain ⟨rfl, rfl⟩ := Prod.mk.inj (Option.some.inj h)
          exact ⟨m, w, _, hrun, hVR, hsame⟩
        · split at h
          · obtain ⟨rfl, rfl⟩ := Prod.mk.inj (Option.some.inj h)
            exact ⟨m, w, _, hrun, hVR, Stp.refl hR _⟩
          · cases h
      · obtain rfl := hplace hne
        split at h
        · rename_i hfit
          obtain ⟨rfl, rfl⟩ := Prod.mk.inj (Option.some.inj h)
          have hst := hB.store (P := P) (o := o + n * re.size) n1 h1n hfit
          have hrun := append_room (ty := ty) (w' := w.setCells l.blk (l.off + (o + n * re.size)) new') hT h0 h1 h2 h3 hr he hre hru hnu hlen n2 (by omega)
            (fun a ha => by obtain rfl := Option.some.inj ha; rw [add_none, Nat.add_assoc]; exact hst) (fun h => by cases h)
          exact ⟨m, _, _, hrun, hVR, hR.wrote hbk hl (setCells_same _ _ _ _) (fun q hq => setCells_far _ _ _ _ q hq) (hB.wrote n1 h1n hfit) _⟩
        · split at h
          · rename_i hz'
            exact absurd (List.eq_nil_of_length_eq_zero (by simpa using hz')) hne
          · cases h
    · cases h
  · -- there may be none
    rename_i hroom
    split at h
    · cases h
    rename_i old hold
    split at h
    · cases h
    rename_i hol
    have hol : old.length = n * re.size := by simpa using hol
    obtain ⟨old', p1, p2, p3, p4⟩ := sliceCells_two (P := P) hR hold hs hol (fun q hq => by simp [lenV] at hq; omega)
    have h1o : ∀ v ∈ old, one v = true := by
      intro v hv
      unfold sliceCells at hold
      split at hold
      · obtain rfl := Option.some.inj hold; cases hv
      · rename_i b o q1 q2 heq
        split at hold
        case h_2 => cases hold
        rename_i mm tr e' g hbk
        split at hold
        · rename_i hom
          obtain ⟨l, hl, _, hB⟩ := hR.live _ _ hbk
          obtain ⟨cs, hc⟩ := hB.cells
          obtain ⟨_, _, _, g3, _⟩ := hc.row hom hold
          exact g3 v hv
        · split at hold
          · obtain rfl := Option.some.inj hold; cases hv
          · cases hold
      · rename_i e; cases e
      · cases hold
    have hall := p1.append n1
    have h1all : ∀ v ∈ old ++ new, one v = true := fun v hv => by
      rcases List.mem_append.1 hv with q | q
      · exact h1o v q
      · exact h1n v q
    have hlall : (old ++ new).length = (n + k) * re.size := by rw [List.length_append, hol, hnl, Nat.add_mul]
    -- a new row
    have grow : ∀ c'' : Nat, c'' < n + k → s' = .slice (match s' with | .slice a _ _ => a | _ => none) n c'' →
        ∃ m' w' v', (Builtin.append_ ts ty as).run P w = .ok v' w' ∧ VR m' (.slice (some ⟨id, 0, none⟩) (n + k) (n + k)) v' ∧
          Stp base m H w m' (H.put id (some (.cells ((n + k) * re.size) (Tr.emp.putAll 0 (old ++ new)) e (some re.size)))) w' (· = id) := by
      intro c'' hc'' hs''
      rw [hs''] at h2 p3
      have hrun := append_grow (ty := ty) hT h0 h1 h2 h3 hr he hre hru hnu hlen n3 p3 hc'' hz hb0 hbig
      have hge := grownCap_ge w (n + k) c'' e
      obtain ⟨q1, q2⟩ := grown_row (e := e) (cap := grownCap w (n + k) c'' e) (zs := Builtin.zeroCells z.cells (grownCap w (n + k) c'' e - (n + k))) hR hb hid hall h1all hlall hge (by rw [zeroCells_size, hzs])
      refine ⟨_, _, _, hrun, q2, ?_⟩
      have harr : old'.toArray ++ new'.toArray = (old' ++ new').toArray := by simp
      rw [harr]
      exact q1
    split at h
    · obtain ⟨rfl, rfl⟩ := Prod.mk.inj (Option.some.inj h)
      cases hs
      exact grow c (by omega) rfl
    · rename_i b o sp
      cases sp with
      | some _ => cases hs
      | none =>
      obtain ⟨l, o', c', hl, rfl, hcc, hor⟩ := hs.sl_inv
      split at h
      · rename_i kk tr e' sz hbk
        split at h
        case isFalse => cases h
        rename_i hsz
        obtain ⟨hsz1, hsz2⟩ : sz = re.size ∧ e' = e := by simpa using hsz
        subst hsz1
        subst hsz2
        obtain ⟨rfl, rfl⟩ := Prod.mk.inj (Option.some.inj h)
        obtain ⟨f, cs, hfin, _⟩ := (hR.at hbk hl).2
        by_cases hin : n + k ≤ c'
        · obtain ⟨ho', hbd⟩ : o' = l.off + o ∧ o' + c' * re.size ≤ f := by
            rcases hor with ⟨q, _⟩ | ⟨sz, f', q1, hnc, q | q⟩
            · rw [hfin] at q; cases q
            · omega
            · rw [hfin] at q1
              obtain ⟨rfl, rfl⟩ := Prod.mk.inj (Option.some.inj q1)
              exact q
          obtain ⟨r1, r2, r3⟩ := grown_on (P := P) (k := k) (o' := o') (c' := c') hR hid hbk hl hfin p1 h1o n1 h1n hol hnl ho' (p4 _ _ _ _ rfl) hin hbd
          have hrun := append_room (ty := ty) hT h0 h1 h2 h3 hr he hre hru hnu hlen n2 hin (fun a ha => by obtain rfl := Option.some.inj ha; rw [add_none]; exact r1) (fun h => by cases h)
          exact ⟨_, _, _, hrun, r3, r2⟩
        · obtain ⟨m', w', v', q1, q2, q3⟩ := grow c' (by omega) rfl
          exact ⟨m', w', v', q1, q2, q3.forget b⟩
      · rename_i kk tr e' hbk
        obtain ⟨rfl, rfl⟩ := Prod.mk.inj (Option.some.inj h)
        have hfin : l.fin = none := (hR.at hbk hl).2.1
        obtain rfl : c' = c := by
          rcases hor with ⟨_, _, q⟩ | ⟨sz, f, q, _⟩
          · exact q
          · rw [hfin] at q; cases q
        exact grow c' (by omega) rfl
      · cases h
theorem aclone_ok (hR : R base m H w) {id : Nat} {t : TypeId} {s x v : Value} {H1 : AHeap} (h : aclone T t s x id H = some (v, H1)) :
    ∃ n t0 t1 e g, aappend T t s x id H = some (v, H.put id (some (.cells n t0 e g))) ∧ H1 = H.put id (some (.cells n t1 e g)) ∧ ∀ i, i < n → t1.get i = t0.get i := by
  unfold aclone at h
  split at h
  · cases h
  rename_i r hr
  split at h
  case h_2 => cases h
  rename_i e a c b k c2 he
  split at h
  case h_2 => cases h
  rename_i re kk tr e' g' hre hbk
  split at h
  case isFalse => cases h
  rename_i hck
  simp only [Bool.and_eq_true, Bool.not_eq_true', beq_eq_false_iff_ne, ne_eq, decide_eq_true_eq] at hck
  obtain ⟨⟨⟨⟨⟨h1, h2⟩, h3⟩, h4⟩, h5⟩, h6⟩ := hck
  have h1 := Nat.le_of_ble_eq_true h1
  have h2 : c < k := Nat.le_of_ble_eq_true h2
  obtain ⟨rfl, rfl⟩ := Prod.mk.inj (Option.some.inj h)
  obtain ⟨l, hl, _, hB⟩ := hR.live _ _ hbk
  obtain ⟨cs, hc⟩ := hB.cells
  obtain ⟨vs, g1, g2, g3, g4⟩ := hc.row_some (k := k * re.size) (o := 0) (by omega)
  refine ⟨_, Tr.emp.putAll 0 vs, tr, e, some re.size, ?_, rfl, fun i hi => ?_⟩
  · have hnew : sliceCells re.size k (.slice (some ⟨b, 0, none⟩) k c2) H = some vs := by
      unfold sliceCells
      simp only [hbk]
      rw [if_pos (by omega)]; exact g1
    have hold : sliceCells re.size 0 (.slice a 0 c) H = some [] := by
      unfold sliceCells
      cases a with
      | none => rfl
      | some ad =>
        obtain ⟨b', o', sp⟩ := ad
        cases sp with
        | some _ => simp [notGrown] at h6
        | none =>
          simp only [notGrown] at h6 ⊢
          split at h6
          · rename_i q hq
            rw [hq]
            simp [Tr.row]
          · cases h6
    unfold aappend
    rw [hr]
    simp only [he, lenV, hre, hnew, hold, g3, bne_self_eq_false, g2, Bool.not_true, Bool.false_or]
    rw [if_neg]
    · rw [if_neg (by omega)]
      simp only [List.length_nil, Nat.zero_mul, bne_self_eq_false, Bool.false_eq_true, if_false, List.nil_append, Nat.zero_add]
      cases a with
      | none => rfl
      | some ad =>
        obtain ⟨b', o', sp⟩ := ad
        cases sp with
        | some _ => simp [notGrown] at h6
        | none =>
          simp only [notGrown] at h6
          split at h6
          · rename_i q hq; simp only [hq]
          · cases h6
    · simp only [Bool.or_eq_true, beq_iff_eq, decide_eq_true_eq, not_or, Nat.zero_add]
      refine ⟨⟨?_, h4⟩, by omega⟩
      cases hz : re.zero with
      | none => rw [hz] at h3; cases h3
      | some z => simp
  · rw [Tr.get_putAll, if_pos (Nat.zero_le _), Nat.sub_zero]
    have := g4 i hi
    rw [Nat.zero_add] at this
    rw [this]
    have hlt : i < vs.length := by rw [g3]; exact hi
    rw [List.getElem?_eq_getElem hlt]
theorem aclone_mem (hT : TabOk P T) (hR : R base m H w) (hb : base ≤ w.heap.size) {id : Nat} (hid : m id = none) {ts : Array TypeId} {as : Array Value} {t u ty : TypeId} {ru : TyRow} {s x s' x' v : Value} {H1 : AHeap}
    (h : aclone T t s x id H = some (v, H1)) (h0 : ts[0]? = some t) (h1 : ts[1]? = some u) (h2 : as[0]? = some s') (h3 : as[1]? = some x') (hru : T.get u = some ru) (hnu : ∀ q, ru.und ≠ .int q) (hs : VR m s s') (hx : VR m x x') :
    Mem P base m H w (Builtin.append_ ts ty as) v H1 id := by
  obtain ⟨n, t0, t1, e, g, k1, rfl, k2⟩ := aclone_ok hR h
  obtain ⟨m', w', v', q1, q2, q3⟩ := aappend_ok (ty := ty) hT hR hb hid k1 h0 h1 h2 h3 hru hnu hs hx
  exact ⟨m', w', v', q1, q2, q3.retree k2⟩
end
end Go.Proofs.YtkgmpkoamicheaaGreatDoor.M
