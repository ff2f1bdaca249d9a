/- The quick way's answers are the program's: append. No program in it. -/
import Derived.Test.YtkgmpkoamicheaaGreatDoorMp
namespace Go.Proofs.YtkgmpkoamicheaaGreatDoor.M
section
variable {P : Program} {T : Tab} {base : Nat} {m : Mu} {H : AHeap} {w : World}

theorem lenV_ok {x x' : Value} {k : Nat} (h : lenV x = some k) (hx : VR m x x') : (Builtin.lenOf x').run P w = .ok k w := by
  unfold lenV at h
  split at h
  · obtain rfl := Option.some.inj h; cases hx <;> rfl
  · obtain rfl := Option.some.inj h; cases hx; rfl
  · cases h
theorem append_room (hT : TabOk P T) {ts : Array TypeId} {as : Array Value} {t u ty e : TypeId} {x' : Value} {b : Option Addr} {n c k : Nat} {re ru r : TyRow} {new : List Value}
    (h0 : ts[0]? = some t) (h1 : ts[1]? = some u) (h2 : as[0]? = some (.slice b n c)) (h3 : as[1]? = some x') (hr : T.get t = some r) (he : r.und = .slice e) (hre : T.get e = some re) (hru : T.get u = some ru) (hn : ∀ q, ru.und ≠ .int q)
    (hl : (Builtin.lenOf x').run P w = .ok k w) (hf : (Builtin.firstCells re.size k x').run P w = .ok new.toArray w) (hc : n + k ≤ c) {w' : World}
    (hst : ∀ a, b = some a → (storeCells (a.add (n * re.size)) new).run P w = .ok () w') (hnone : b = none → w' = w) :
    (Builtin.append_ ts ty as).run P w = .ok (.slice b (n + k) c) w' := by
  have hu := hT.und hr w
  have huu := hT.und hru w
  have hs := hT.size hre w
  have hz : (match ru.und with | .int _ => true | _ => false) = false := by
    generalize hd : ru.und = d at hn
    cases d <;> first | rfl | exact absurd rfl (hn _)
  simp only [Builtin.append_, h0, h1, h2, h3, Sem.run_bind, hu, he, Result.andThen_ok, hs, huu, Sem.run_pure]
  simp only [hz, Bool.false_eq_true, if_false, Bool.not_false, if_true, hl, Result.andThen_ok, hc, Sem.run_bind, hf]
  cases b with
  | none => simp [hnone rfl]
  | some a => simp [hst a rfl]
theorem append_grow (hT : TabOk P T) {ts : Array TypeId} {as : Array Value} {t u ty e : TypeId} {x' : Value} {b : Option Addr} {n c k : Nat} {re ru r : TyRow} {new old : List Value} {z : Value}
    (h0 : ts[0]? = some t) (h1 : ts[1]? = some u) (h2 : as[0]? = some (.slice b n c)) (h3 : as[1]? = some x') (hr : T.get t = some r) (he : r.und = .slice e) (hre : T.get e = some re) (hru : T.get u = some ru) (hn : ∀ q, ru.und ≠ .int q)
    (hl : (Builtin.lenOf x').run P w = .ok k w) (hf : (Builtin.firstCells re.size k x').run P w.drew = .ok new.toArray w.drew) (ho : (Builtin.firstCells re.size n (.slice b n c)).run P w.drew = .ok old.toArray w.drew)
    (hc : c < n + k) (hz : re.zero = some z) (hb0 : re.bytes ≠ 0) (hbig : (n + k) * re.bytes ≤ 1099511627776) :
    (Builtin.append_ ts ty as).run P w = .ok (.slice (some ⟨w.heap.size, 0, none⟩) (n + k) (grownCap w (n + k) c e)) (w.drew.alloc (.cells (old.toArray ++ new.toArray ++ Builtin.zeroCells z.cells (grownCap w (n + k) c e - (n + k))) e)) := by
  have hu := hT.und hr w
  have huu := hT.und hru w
  have hs := hT.size hre w
  obtain ⟨info, hi, _, hib, _⟩ := hT.info hre w
  have hzr := hT.zero hre hz w.drew
  obtain ⟨info', hi', _, hib', _⟩ := hT.info hre w.drew
  have hzz : (match ru.und with | .int _ => true | _ => false) = false := by
    generalize hd : ru.und = d at hn
    cases d <;> first | rfl | exact absurd rfl (hn _)
  have hc' : ¬ n + k ≤ c := by omega
  have hnk : n + k ≤ 1099511627776 := by
    have : (n + k) * 1 ≤ (n + k) * re.bytes := Nat.mul_le_mul_left _ (by omega)
    omega
  have h63 : ¬ (((n + k : Nat) : Int) > IntKind.i64.max) := by simp [IntKind.max, IntKind.signed, IntKind.bits]; omega
  have hfit : ¬ (Builtin.nextslicecap (n + k) c * re.bytes > 2 ^ 48) := by
    have := growslice_fits (bytes := re.bytes) hc (by omega)
    omega
  simp only [Builtin.append_, h0, h1, h2, h3, Sem.run_bind, hu, he, Result.andThen_ok, hs, huu, Sem.run_pure]
  simp only [hzz, Bool.false_eq_true, if_false, Bool.not_false, if_true, hl, Result.andThen_ok, hc', Sem.run_bind, hi, hib, h63, false_and, hfit, run_choose, Question.forced, hi', hib', run_askRoom]
  rw [show (⟨w.heap, w.tape, w.drawn + 1, w.os, w.output⟩ : World) = w.drew from rfl]
  simp only [hi', run_askRoom, ho, hf, hzr, Result.andThen_ok, newRow, Sem.run_bind, run_newObj, Sem.run_pure]
  rfl

/-- a block is forgotten -/
theorem R.forget (h : R base m H w) (b : Nat) : R base m (H.put b none) w :=
  ⟨fun c C hc => by
    rw [AHeap.get_put] at hc
    split at hc
    · cases hc
    · exact h.live c C hc, fun c d C D l k h1 h2 => by
    rw [AHeap.get_put] at h1 h2
    split at h1
    · cases h1
    · split at h2
      · cases h2
      · exact h.inj c d C D l k h1 h2⟩
theorem Stp.forget {m' : Mu} {H' : AHeap} {w' : World} {N : Nat → Prop} (h : Stp base m H w m' H' w' N) (b : Nat) : Stp base m H w m' (H'.put b none) w' N :=
  ⟨h.ext, h.rel.forget b, h.fr, fun c C l hc => by
    rw [AHeap.get_put] at hc
    split at hc
    · cases hc
    · exact h.bk c C l hc⟩

theorem zeroCells_size (z : Array Value) (n : Nat) : (Builtin.zeroCells z n).size = n * z.size := by simp [Builtin.zeroCells]
/-- the new row that an append makes -/
theorem grown_row (hR : R base m H w) (hb : base ≤ w.heap.size) {id : Nat} (hid : m id = none) {e : TypeId} {all all' : List Value} {zs : Array Value} {sz cap k : Nat} (hv : VRs m all all') (h1 : ∀ v ∈ all, one v = true) (hall : all.length = k * sz) (hk : k ≤ cap)
    (hz : zs.size = (cap - k) * sz) :
    Stp base m H w (m.put id ⟨w.heap.size, 0, some (sz, cap * sz)⟩) (H.put id (some (.cells (k * sz) (Tr.emp.putAll 0 all) e (some sz)))) (w.drew.alloc (.cells (all'.toArray ++ zs) e)) (· = id) ∧
    VR (m.put id ⟨w.heap.size, 0, some (sz, cap * sz)⟩) (.slice (some ⟨id, 0, none⟩) k k) (.slice (some ⟨w.heap.size, 0, none⟩) k cap) := by
  have hlen := hv.1
  have hmul : k * sz + (cap - k) * sz = cap * sz := by rw [← Nat.add_mul]; congr 1; omega
  have hsize : (all'.toArray ++ zs).size = cap * sz := by simp; omega
  refine ⟨hR.new' (w' := w.drew.alloc (.cells (all'.toArray ++ zs) e)) hb hid ⟨rfl, rfl, rfl, ?_⟩ (fun i hi => alloc_old w.drew _ i hi) rfl ⟨cap * sz, all'.toArray ++ zs, rfl, ⟨⟨(0, 0), alloc_new w.drew _, fun i _ => by simp⟩, by rw [hsize]; simp; omega, fun i hi => ?_⟩, by simp; omega, by omega⟩,
    .slg (Mu.put_at _ _ _) rfl (Nat.le_refl _) hk (.inr ⟨by simp, by simp⟩)⟩
  · have := alloc_size w.drew (.cells (all'.toArray ++ zs) e)
    rw [this]
    exact Nat.le_succ _
  · have hi' : i < all.length := by omega
    obtain ⟨v', g1, g2⟩ := hv.2 i all[i] (by simp [hi'])
    refine ⟨all[i], v', ?_, ?_, g2.mono (Mu.le_put hid), h1 _ (List.getElem_mem hi')⟩
    · rw [Tr.get_putAll]
      simp [hi']
    · have hi2 : i < all'.length := by omega
      rw [Nat.zero_add, Array.getElem?_append]
      simp [hi2] at g1 ⊢
      exact g1
end
end Go.Proofs.YtkgmpkoamicheaaGreatDoor.M
