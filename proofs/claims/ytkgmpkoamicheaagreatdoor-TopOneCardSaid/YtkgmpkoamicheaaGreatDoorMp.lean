/- The quick way's answers are the program's: conversions; maps written; texts ranged over. No program in it. -/
import Derived.Test.YtkgmpkoamicheaaGreatDoorMo
namespace Go.Proofs.YtkgmpkoamicheaaGreatDoor.M
section
variable {P : Program} {T : Tab} {base : Nat} {m : Mu} {H : AHeap} {w : World}

theorem Mem.same {s : Sem Value} {v : Value} {id : Nat} (hR : R base m H w) (h : Yld P m w s v) : Mem P base m H w s v H id := by
  obtain ⟨v', h1, h2⟩ := h
  exact ⟨m, w, v', h1, h2, Stp.refl hR _⟩
theorem sliceCells_ok (hR : R base m H w) {size n : Nat} {x x' : Value} {l : List Value} (h : sliceCells size n x H = some l) (hx : VR m x x') (hl : l.length = n * size) (hn : ∀ k, lenV x = some k → n ≤ k) :
    ∃ l', VRs m l l' ∧ (Builtin.firstCells size n x').run P w = .ok l'.toArray w ∧ (∀ b o k c, x' = .slice (some ⟨b, o, none⟩) k c → ∀ j v, l'[j]? = some v → w.cell? ⟨b, o + j, none⟩ = some v) := by
  unfold sliceCells at h
  split at h
  · obtain rfl := Option.some.inj h
    cases hx
    exact ⟨[], .nil m, by simp [Builtin.firstCells], by simp⟩
  · rename_i b o k c
    have hnk := hn k rfl
    obtain ⟨l0, o', c', hl0, rfl, hcc, hor⟩ := hx.sl_inv
    split at h
    case h_2 => cases h
    rename_i mm tr e g hb
    split at h
    · rename_i hom
      obtain ⟨cs, hc⟩ := (hR.at hb hl0).2.cells
      by_cases hz : n * size = 0
      · have : l = [] := List.eq_nil_of_length_eq_zero (by omega)
        subst this
        have := run_firstCells_some (P := P) w size n ⟨l0.blk, o', none⟩ k c' [] (by simp; omega) (by simp)
        exact ⟨[], .nil m, this, by simp⟩
      · have ho : o' = l0.off + o := by
          rcases hor with ⟨_, h1, _⟩ | ⟨sz, f, _, hkc, h1 | h1⟩
          · exact h1
          · have : n = 0 := by omega
            subst this; simp at hz
          · exact h1.1
        subst ho
        obtain ⟨vs', g1, g2, _, g3⟩ := hc.row hom h
        refine ⟨vs', g1, ?_, fun b o' k' c'' he j v hj => ?_⟩
        · exact run_firstCells_some (P := P) w size n ⟨l0.blk, l0.off + o, none⟩ k c' vs' g2 (fun j v hj => by rw [add_none]; exact g3 j v hj)
        · simp only [Value.slice.injEq, Option.some.injEq, Addr.mk.injEq] at he
          obtain ⟨⟨rfl, rfl, _⟩, _, _⟩ := he
          exact g3 j v hj
    · split at h
      · rename_i hz
        obtain rfl := Option.some.inj h
        have hz' : n * size = 0 := by simpa using hz
        have := run_firstCells_some (P := P) w size n ⟨l0.blk, o', none⟩ k c' [] (by simp; omega) (by simp)
        exact ⟨[], .nil m, this, by simp⟩
      · cases h
  · rename_i s
    obtain rfl := Option.some.inj h
    cases hx
    refine ⟨(s.data.toList.take n).map fun c => .int .u8 c.toNat, VRs.map _ _ _ fun c _ => .int _ _, ?_, by simp⟩
    simp only [Builtin.firstCells, Sem.run_pure]
    congr 1
    apply Array.ext'
    simp [extract_list]
  · cases h

theorem bytesOf_ok : ∀ {l : List Value} {bs : List UInt8}, bytesOfCells l = some bs → ∃ ns : List Int, l = ns.map (Value.int .u8) ∧ bs = ns.map fun n => UInt8.ofNat n.toNat
  | [], bs, h => by obtain rfl := Option.some.inj h; exact ⟨[], rfl, rfl⟩
  | v :: l, bs, h => by
    unfold bytesOfCells at h
    split at h
    · cases ‹_ = ([] : List Value)›
    · rename_i n l' e
      obtain ⟨rfl, rfl⟩ := List.cons.inj e
      split at h
      · rename_i bs' hb
        obtain rfl := Option.some.inj h
        obtain ⟨ns, h1, h2⟩ := bytesOf_ok hb
        exact ⟨n :: ns, by simp [h1], by simp [h2]⟩
      · cases h
    · cases h
theorem VRs.ints {ns : List Int} {k : IntKind} {l : List Value} (h : VRs m (ns.map (Value.int k)) l) : l = ns.map (Value.int k) := by
  induction ns generalizing l with
  | nil => exact h.nil_inv
  | cons n ns ih =>
    obtain ⟨v', z, rfl, h1, h2⟩ := VRs.cons_inv (by simpa using h)
    cases h1
    simp [ih h2]

theorem xConvert_ok (hT : TabOk P T) (hR : R base m H w) (hb : base ≤ w.heap.size) {id : Nat} (hid : m id = none) {s d : TypeId} {x x' : Value} {o : Out} {H1 : AHeap} (h : xConvert T id H s d x = some (o, H1)) (hx : VR m x x') :
    ∃ v, o = .val v ∧ Mem P base m H w (convert s d x') v H1 id := by
  unfold xConvert at h
  split at h
  case h_2 => cases h
  rename_i rs rd hrs hrd
  have hus := hT.und hrs w
  have hud := hT.und hrd w
  split at h
  · rename_i k1 k k2 n e1 e2
    cases hx
    obtain ⟨rfl, rfl⟩ := Prod.mk.inj (Option.some.inj h)
    exact ⟨_, rfl, Mem.same hR ⟨.int k (k.wrap n), by simp [convert, hus, hud, e1, e2, Conv.intToInt], .int _ _⟩⟩
  · rename_i b e1 e2
    cases hx
    obtain ⟨rfl, rfl⟩ := Prod.mk.inj (Option.some.inj h)
    exact ⟨_, rfl, Mem.same hR ⟨.string b, by simp [convert, hus, hud, e1, e2], .string _⟩⟩
  · rename_i e b e1 e2
    cases hx
    split at h
    case h_2 => cases h
    rename_i re hre
    split at h
    case h_2 => cases h
    rename_i he
    obtain ⟨rfl, rfl⟩ := Prod.mk.inj (Option.some.inj h)
    have hrun := Lib.run_convert_string_bytes (P := P) w s d e b (hT s rs hrs).1 (by rw [(hT d rd hrd).1, e2]) (by rw [(hT e re hre).1, he])
    have hge := grownCap_ge w b.size 0 e
    have hsz : (Lib.bytesCells w e b).size = grownCap w b.size 0 e := by
      simp [Lib.bytesCells]
      have : b.data.size = b.size := rfl
      omega
    refine ⟨_, rfl, m.put id ⟨w.heap.size, 0, some (1, grownCap w b.size 0 e)⟩, _, _, hrun, ?_, hR.new' (w' := Lib.bytesWorld w e b) hb hid ⟨rfl, rfl, rfl, by rw [Lib.bytesWorld_size]; omega⟩ (fun i hi => Lib.bytesWorld_at_old w e b i hi) rfl ⟨grownCap w b.size 0 e, Lib.bytesCells w e b, rfl, ⟨⟨_, Lib.bytesWorld_at_new w e b, fun i hi => ⟨by simp; omega, by simp⟩⟩, by simp [hsz]; omega, fun i hi => ?_⟩, by simp; omega, by omega⟩⟩
    · exact .slg (Mu.put_at _ _ _) rfl (Nat.le_refl _) hge (.inr ⟨by simp, by simp⟩)
    · have hlen : i < b.data.toList.length := by simpa using hi
      refine ⟨.int .u8 b.data.toList[i].toNat, .int .u8 b.data.toList[i].toNat, ?_, ?_, .int _ _, rfl⟩
      · rw [Tr.get_putAll]
        simp [hi]
      · have hd : i < b.data.size := hi
        have hd2 : b.data[i]? = some b.data[i] := by simp [hd]
        simp [Lib.bytesCells, Array.getElem?_append, hi, hd2]
  · rename_i es e b o' n c e1 e2
    split at h
    case isFalse => cases h
    rename_i hsd
    have hsd' : s = d := by simpa [Tr.beq_iff] using hsd
    split at h
    case h_2 => cases h
    rename_i re hre
    split at h
    case h_2 => cases h
    rename_i he
    split at h
    case h_2 => cases h
    rename_i k t el g hbk
    obtain ⟨rfl, rfl⟩ := Prod.mk.inj (Option.some.inj h)
    have hue := hT.und hre w
    have hx' := hx
    obtain ⟨l, o2, c', hl, rfl, hcc, hor⟩ := hx'.sl_inv
    obtain ⟨hbase, hB⟩ := hR.at hbk hl
    obtain ⟨cs, hcs⟩ := hB.cells
    obtain ⟨⟨fz, hh, hz⟩, hn, hi⟩ := hcs
    have hlt : l.blk < w.heap.size := by
      rcases Nat.lt_or_ge l.blk w.heap.size with q | q
      · exact q
      · rw [Array.getElem?_eq_none q] at hh; cases hh
    have hmark : (markStringish ⟨l.blk, o2, none⟩).run P w = .ok () (w.freeze ⟨l.blk, cs.size, none⟩ 1) := by
      have hsh : w.shape? l.blk = some (el, cs.size) := by simp [World.shape?, hh]
      simp [markStringish, hsh]
    have hfar : ∀ q, q ≠ l.blk → (w.freeze ⟨l.blk, cs.size, none⟩ 1).heap[q]? = w.heap[q]? := fun q hq => by
      simp only [World.freeze]
      rw [if_neg (by decide)]
      simp only [Array.getElem?_modify]
      rw [if_neg (fun e => hq e.symm)]
    obtain ⟨fz', hat, hz'⟩ : ∃ fz' : Nat × Nat, (w.freeze ⟨l.blk, cs.size, none⟩ 1).heap[l.blk]? = some (.cells cs el fz') ∧ ∀ i, i < cs.size → ¬ (fz'.1 ≤ i ∧ i < fz'.2) ∧ fz'.1 ≤ fz'.2 := by
      obtain ⟨lo, hi2⟩ := fz
      simp only [World.freeze]
      rw [if_neg (by decide)]
      simp only [Array.getElem?_modify, if_pos, hh, Option.map_some]
      refine ⟨_, rfl, fun i hi => ?_⟩
      have hzi := hz i hi
      simp only at hzi
      split
      · simp only; omega
      · rename_i hne
        have hne' : lo ≠ hi2 := by simpa using hne
        have hz2 := hz lo
        simp only at hz2
        simp only
        by_cases hlo : lo < cs.size
        · have := hz2 hlo; omega
        · omega
    have hB' : BR m (w.freeze ⟨l.blk, cs.size, none⟩ 1) l (.cells k t el g) := by
      have hB0 := hB
      cases g with
      | none =>
        obtain ⟨q1, cs2, ⟨⟨fz2, hh2, _⟩, q2, q3⟩, q4, q5⟩ := hB0
        have ecs : cs2 = cs := by rw [hh] at hh2; cases hh2; rfl
        subst ecs
        exact ⟨q1, cs2, ⟨⟨fz', hat, hz'⟩, q2, q3⟩, q4, q5⟩
      | some sz =>
        obtain ⟨f, cs2, q1, ⟨⟨fz2, hh2, _⟩, q2, q3⟩, q4, q5⟩ := hB0
        have ecs : cs2 = cs := by rw [hh] at hh2; cases hh2; rfl
        subst ecs
        exact ⟨f, cs2, q1, ⟨⟨fz', hat, hz'⟩, q2, q3⟩, q4, q5⟩
    have hfs : (w.freeze ⟨l.blk, cs.size, none⟩ 1).heap.size = w.heap.size := by simp [World.freeze]
    refine ⟨_, rfl, m, w.freeze ⟨l.blk, cs.size, none⟩ 1, _, ?_, hx, hR.wrote (w' := w.freeze ⟨l.blk, cs.size, none⟩ 1) hbk hl ⟨by simp [World.freeze], by simp [World.freeze], by simp [World.freeze], hfs⟩ hfar hB' _⟩
    have hsd2 : (s == d) = true := by rw [hsd']; exact beq_self_eq_true d
    rw [convert]
    simp only [Sem.run_bind, hus, hud, Result.andThen_ok, e1, e2, hue, he, hsd2]
    simp [hmark]
  · rename_i e a n c e1 e2
    split at h
    case h_2 => cases h
    rename_i re hre
    split at h
    case h_2 => cases h
    rename_i he
    split at h
    case h_2 => cases h
    rename_i l hl
    split at h
    case h_2 => cases h
    rename_i bs hbs
    split at h
    case isFalse => cases h
    rename_i hn
    obtain ⟨rfl, rfl⟩ := Prod.mk.inj (Option.some.inj h)
    obtain ⟨ns, rfl, rfl⟩ := bytesOf_ok hbs
    have hn' : ns.length = n := by simpa using hn
    have hs1 : P.underlying s = some (.slice e) := by rw [(hT s rs hrs).1, e1]
    have hd1 : P.underlying d = some .string := by rw [(hT d rd hrd).1, e2]
    have he1 : P.underlying e = some (.int .u8) := by rw [(hT e re hre).1, he]
    obtain ⟨l', g1, _, g3⟩ := sliceCells_ok (P := P) hR hl hx (by simp [hn']) (fun k hk => by simp [lenV] at hk; omega)
    obtain rfl := g1.ints
    cases a with
    | none =>
      cases hx
      have : ns = [] := by simpa [sliceCells] using hl.symm
      subst this
      exact ⟨_, rfl, Mem.same hR ⟨_, run_convert_bytes_nil w s e hs1 he1 n c d hd1, VR.string ByteArray.empty⟩⟩
    | some ad =>
      have had : ∃ b o, ad = ⟨b, o, none⟩ := by
        obtain ⟨b, o, sp⟩ := ad
        cases sp with
        | none => exact ⟨b, o, rfl⟩
        | some _ => simp [sliceCells] at hl
      obtain ⟨b, o, rfl⟩ := had
      obtain ⟨l0, o', c', _, rfl, _, _⟩ := hx.sl_inv
      have hcell := g3 _ _ _ _ rfl
      refine ⟨_, rfl, Mem.same hR ⟨_, run_convert_bytes_arg w s e hs1 he1 l0.blk o' n c' ns hn' (fun i hi => ?_) d hd1, ?_⟩⟩
      · refine hcell i _ ?_
        simp [List.getD_eq_getElem?_getD, show i < ns.length by omega]
      · exact .string _
  · cases h
end
end Go.Proofs.YtkgmpkoamicheaaGreatDoor.M
