/- xml's attribute, as the plain function tells it. -/
import Derived.Test.YtppgjkjdddanbaaDoorG1
import Derived.BigQuiet
import Derived.Deep.QuietTactic
namespace Go.Proofs.YtppgjkjdddanbaaDoor
open Go.RowKit
open Hb

theorem must_any (b : Bool) (k : Int) (w : World) : Calls Tryd.prog 27 #[.bool b, .int .i64 k] w fun o w' => (b = true ∧ o = .returned (.tuple #[]) ∨ b = false ∧ o = panic1 k) ∧ w' = w := by
  cases b
  · exact (must_no k w).mono (fun _ _ h => ⟨.inr ⟨rfl, h.1⟩, h.2⟩)
  · exact (must_ok _ w).mono (fun _ _ h => ⟨.inl ⟨rfl, h.1⟩, h.2⟩)

/-- an attribute in work: its block, and nothing that was there is changed. -/
def Jat (w : World) (x : ByteArray) (W : World) : Prop := Box W w.heap.size 53 #[.string x, .string ⟨#[]⟩] ∧ Below w.heap.size w W

theorem Jat.below {w W W' : World} {x : ByteArray} (h : Jat w x W) (hb : Below W.heap.size W W') : Jat w x W' := ⟨(hb.block _ h.1.lt).trans h.1, h.2.trans (hb.mono h.2.size)⟩
theorem Jat.start (w : World) (x : ByteArray) (n : Nat) : Jat w x (((w.alloc (.cells #[.string ⟨#[]⟩, .string ⟨#[]⟩] 53)).drewN n).setCell ⟨w.heap.size, 0, none⟩ (.string x)) := by
  have h0 : Box ((w.alloc (.cells #[.string ⟨#[]⟩, .string ⟨#[]⟩] 53)).drewN n) w.heap.size 53 #[.string ⟨#[]⟩, .string ⟨#[]⟩] := (MapKept.heap_alloc w _).1
  refine ⟨h0.set 0 _, ?_⟩
  exact (bdrewN ((Below.refl _ w).alloc (Nat.le_refl _) _) n).setCell (Nat.le_refl _) _

theorem preB_le {s p : ByteArray} (h : preB s p = true) : p.size ≤ s.size := by
  unfold preB at h
  simp only [Bool.and_eq_true, decide_eq_true_eq] at h
  exact h.1

theorem sl_from (r : ByteArray) (k : Nat) (h : k ≤ r.size) (W : World) : (Instr.slice 9 (.string r) (some (.int .i64 k)) none none).run Tryd.prog W = .ok (.string (r.extract k r.size)) W := by
  rw [run_slice_string_from_if _ _ _ _ _ Tryd.underlying9, if_pos (by omega)]
  rfl
theorem sl_to (r : ByteArray) (k : Nat) (h : k ≤ r.size) (W : World) : (Instr.slice 9 (.string r) none (some (.int .i64 k)) none).run Tryd.prog W = .ok (.string (r.extract 0 k)) W := by
  rw [run_slice_string_to_if _ _ _ _ _ Tryd.underlying9, if_pos (by omega)]
  rfl

theorem sl_from1 (r : ByteArray) (h : 1 ≤ r.size) (W : World) : (Instr.slice 9 (.string r) (some (.int .i64 1)) none none).run Tryd.prog W = .ok (.string (r.extract 1 r.size)) W := sl_from r 1 h W
theorem sl_to1 (r : ByteArray) (h : 1 ≤ r.size) (W : World) : (Instr.slice 9 (.string r) none (some (.int .i64 1)) none).run Tryd.prog W = .ok (.string (r.extract 0 1)) W := sl_to r 1 h W

theorem preB_one {r : ByteArray} {c : UInt8} (h : preB r ⟨#[c]⟩ = true) : 1 ≤ r.size ∧ r.extract 0 1 = ⟨#[c]⟩ := by
  refine ⟨preB_le h, ?_⟩
  unfold preB at h
  simp only [Bool.and_eq_true, decide_eq_true_eq, beq_iff_eq] at h
  have h2 := h.2
  change (r.extract 0 1).toList = _ at h2
  rw [ByteArray.toList_eq, ByteArray.toList_eq] at h2
  apply ByteArray.ext
  apply Array.ext'
  exact h2

theorem Jat.drewN {w W : World} {x : ByteArray} (h : Jat w x W) (n : Nat) : Jat w x (W.drewN n) := ⟨h.1, bdrewN h.2 n⟩

/-- a contract that leaves the attribute in work as it is. -/
abbrev JC (w : World) (x : ByteArray) (f : FuncId) (args : Array Value) (v : Value) : Prop := ∀ W, Jat w x W → Calls Tryd.prog f args W fun e w' => e = .returned v ∧ Jat w x w'

theorem leadJ (w : World) (x r : ByteArray) (hr : r.size ≤ 9223372036854775807) : JC w x 33 #[.string r] (.int .i64 (lead r.data.toList)) :=
  fun W h => (lead_any r W hr).mono fun _ _ k => ⟨k.1, h.below k.2⟩
theorem prefixJ (w : World) (x r p : ByteArray) : JC w x 35 #[.string r, .string p] (.bool (preB r p)) :=
  fun W h => (prefix_any r p W).mono fun _ _ k => ⟨k.1, by rw [k.2]; exact h⟩
theorem unescJ (w : World) (x r : ByteArray) (hs : r.size ≤ 70368744177664) : JC w x 29 #[.string r] (Told (unesc (r.size + 1) r.data.toList)) :=
  fun W h => (unescape_any r W hs).mono fun _ _ k => ⟨k.1, h.below k.2⟩

theorem unescV (w : World) (x : ByteArray) (l : List UInt8) (hs : l.length ≤ 70368744177664) : JC w x 29 #[.string ⟨l.toArray⟩] (Told (unesc (l.length + 1) l)) := unescJ w x ⟨l.toArray⟩ (by rw [Lib.size_eq]; exact hs)

set_option maxRecDepth 100000 in
set_option maxHeartbeats 4000000 in
theorem attr_any (s : ByteArray) (w : World) (hs : s.size ≤ 70368744177664) :
    Calls Tryd.prog 51 #[.string s] w fun o w' => (match attrP s with | none => o = panic1 6 | some (a, r) => o = .returned (.tuple #[.agg #[.string a.1, .string a.2], .string r])) ∧ Below w.heap.size w w' := by
  unfold attrP
  have hN := fun W => xname_any s W (by omega)
  unfold nameTold at hN
  have hr0 : (s.extract (nameLen s.data.toList) s.size).size ≤ s.size := by rw [ByteArray.size_extract]; omega
  generalize s.extract (nameLen s.data.toList) s.size = r0 at hN hr0 ⊢
  generalize s.extract 0 (nameLen s.data.toList) = x at hN ⊢
  cases hnm : nameOk s with
  | false =>
    rw [hnm] at hN
    have HN := Lib.hid hN
    clear hN
    go_enter Tryd.func51, Tryd.ntmps51
    go_wp2_with (go_at_call 36; with_reducible refine (HN.out _).mono ?_; rintro e w' ⟨rfl, nq, rfl⟩)
    exact ⟨rfl, rfl, bdrewN ((Below.refl _ w).alloc (Nat.le_refl _) _) nq⟩
  | true =>
    rw [hnm, if_pos rfl] at hN
    rw [if_pos rfl]
    have HN := Lib.hid hN
    clear hN
    unfold attrT cutLead
    dsimp only
    have HS := Lib.hid (Jat.start w x)
    have HL0 := Lib.hid (leadJ w x r0 (by omega))
    have hk0 : lead r0.data.toList ≤ r0.size := by rw [Lib.size_eq]; exact lead_le _
    generalize lead r0.data.toList = k0 at HL0 hk0 ⊢
    have e1 := sl_from r0 k0 hk0
    have hr1 : (r0.extract k0 r0.size).size ≤ r0.size := by rw [ByteArray.size_extract]; omega
    generalize r0.extract k0 r0.size = r1 at e1 hr1 ⊢
    have HP1 := Lib.hid (prefixJ w x r1 ⟨#[61]⟩)
    cases hb1 : preB r1 ⟨#[61]⟩ with
    | false =>
      rw [hb1] at HP1
      rw [if_neg (by decide)]
      go_enter Tryd.func51, Tryd.ntmps51
      go_wp2_with (first | (go_at_call 36; with_reducible refine (HN.out _).mono ?_; rintro e w' ⟨rfl, nq, rfl⟩; have J0 := HS.out nq) | (go_at_call 33; with_reducible refine (HL0.out _ J0).mono ?_; rintro e w1 ⟨rfl, J1⟩) | (go_at_call 35; with_reducible refine (HP1.out _ J1).mono ?_; rintro e w2 ⟨rfl, J2⟩) | (go_at_call 27; with_reducible refine (must_no 6 _).mono ?_; rintro e w' ⟨rfl, rfl⟩))
      exact ⟨rfl, rfl, J2.2⟩
    | true =>
      rw [hb1] at HP1
      rw [if_pos rfl]
      have hle1 := preB_le hb1
      have e2 := sl_from1 r1 hle1
      have hr2 : (r1.extract 1 r1.size).size ≤ r1.size := by rw [ByteArray.size_extract]; omega
      generalize r1.extract 1 r1.size = r2 at e2 hr2 ⊢
      have HL2 := Lib.hid (leadJ w x r2 (by omega))
      have hk2 : lead r2.data.toList ≤ r2.size := by rw [Lib.size_eq]; exact lead_le _
      generalize lead r2.data.toList = k2 at HL2 hk2 ⊢
      have e3 := sl_from r2 k2 hk2
      have hr3 : (r2.extract k2 r2.size).size ≤ r2.size := by rw [ByteArray.size_extract]; omega
      generalize r2.extract k2 r2.size = r3 at e3 hr3 ⊢
      have HP3 := Lib.hid (prefixJ w x r3 ⟨#[39]⟩)
      have HP4 := Lib.hid (prefixJ w x r3 ⟨#[34]⟩)
      cases hb3 : preB r3 ⟨#[39]⟩ with
      | true =>
        rw [hb3] at HP3
        rw [if_pos rfl]
        obtain ⟨hq1, hq2⟩ := preB_one hb3
        have e4 := sl_from1 r3 hq1
        have e5 := sl_to1 r3 hq1
        rw [hq2] at e5
        unfold attrV
        dsimp only
        have hr4 : (r3.extract 1 r3.size).size ≤ r3.size := by rw [ByteArray.size_extract]; omega
        generalize r3.extract 1 r3.size = r4 at e4 hr4 ⊢
        have hC := fun W => cut_byte r4 39 W (by omega)
        have hul : (cutAt 39 r4.data.toList).1.length ≤ r4.size := by
          have := cutAt_len 39 r4.data.toList
          rw [Lib.size_eq]
          omega
        generalize cutAt 39 r4.data.toList = u at hC hul ⊢
        obtain ⟨v, rest, ok⟩ := u
        dsimp only at hC hul ⊢
        have HC := Lib.hid hC
        clear hC
        clear hle1 hb1 hb3 hk0 hk2 hq1 hq2
        cases ok with
        | false =>
          rw [if_neg (by decide)]
          go_enter Tryd.func51, Tryd.ntmps51
          go_wp2_with (first | (go_at_call 36; with_reducible refine (HN.out _).mono ?_; rintro e w' ⟨rfl, nq, rfl⟩; have J0 := HS.out nq) | (go_at_call 33; with_reducible refine (HL0.out _ J0).mono ?_; rintro e w1 ⟨rfl, J1⟩) | (go_at_call 35; with_reducible refine (HP1.out _ J1).mono ?_; rintro e w2 ⟨rfl, J2⟩) | (go_at_call 33; with_reducible refine (HL2.out _ J2).mono ?_; rintro e w3 ⟨rfl, J3⟩) | (go_at_call 35; with_reducible refine (HP3.out _ J3).mono ?_; rintro e w4 ⟨rfl, J4⟩) | (go_at_call 27; with_reducible refine (must_ok _ _).mono ?_; rintro e w' ⟨rfl, rfl⟩) | (go_at_call 27; with_reducible refine (must_no 6 _).mono ?_; rintro e w' ⟨rfl, rfl⟩))
          go_quiet ((go_at_call 39; refine Calls.quiet_of (HC.out _)))
          go_wp2_with (first | (go_at_call 36; with_reducible refine (HN.out _).mono ?_; rintro e w' ⟨rfl, nq, rfl⟩; have J0 := HS.out nq) | (go_at_call 33; with_reducible refine (HL0.out _ J0).mono ?_; rintro e w1 ⟨rfl, J1⟩) | (go_at_call 35; with_reducible refine (HP1.out _ J1).mono ?_; rintro e w2 ⟨rfl, J2⟩) | (go_at_call 33; with_reducible refine (HL2.out _ J2).mono ?_; rintro e w3 ⟨rfl, J3⟩) | (go_at_call 35; with_reducible refine (HP3.out _ J3).mono ?_; rintro e w4 ⟨rfl, J4⟩) | (go_at_call 27; with_reducible refine (must_ok _ _).mono ?_; rintro e w' ⟨rfl, rfl⟩) | (go_at_call 27; with_reducible refine (must_no 6 _).mono ?_; rintro e w' ⟨rfl, rfl⟩))
          exact ⟨rfl, rfl, bdrewN J4.2 _⟩
        | true =>
          rw [if_pos rfl]
          have HU := Lib.hid (unescV w x v (by omega))
          generalize unesc (v.length + 1) v = ot at HU ⊢
          cases ot with
          | none =>
            go_enter Tryd.func51, Tryd.ntmps51
            go_wp2_with (first | (go_at_call 36; with_reducible refine (HN.out _).mono ?_; rintro e w' ⟨rfl, nq, rfl⟩; have J0 := HS.out nq) | (go_at_call 33; with_reducible refine (HL0.out _ J0).mono ?_; rintro e w1 ⟨rfl, J1⟩) | (go_at_call 35; with_reducible refine (HP1.out _ J1).mono ?_; rintro e w2 ⟨rfl, J2⟩) | (go_at_call 33; with_reducible refine (HL2.out _ J2).mono ?_; rintro e w3 ⟨rfl, J3⟩) | (go_at_call 35; with_reducible refine (HP3.out _ J3).mono ?_; rintro e w4 ⟨rfl, J4⟩) | (go_at_call 27; with_reducible refine (must_ok _ _).mono ?_; rintro e w' ⟨rfl, rfl⟩) | (go_at_call 27; with_reducible refine (must_no 6 _).mono ?_; rintro e w' ⟨rfl, rfl⟩))
            go_quiet ((go_at_call 39; refine Calls.quiet_of (HC.out _)))
            have JZ := Jat.drewN J4 nq
            go_wp2_with (first | (go_at_call 36; with_reducible refine (HN.out _).mono ?_; rintro e w' ⟨rfl, nq, rfl⟩; have J0 := HS.out nq) | (go_at_call 33; with_reducible refine (HL0.out _ J0).mono ?_; rintro e w1 ⟨rfl, J1⟩) | (go_at_call 35; with_reducible refine (HP1.out _ J1).mono ?_; rintro e w2 ⟨rfl, J2⟩) | (go_at_call 33; with_reducible refine (HL2.out _ J2).mono ?_; rintro e w3 ⟨rfl, J3⟩) | (go_at_call 35; with_reducible refine (HP3.out _ J3).mono ?_; rintro e w4 ⟨rfl, J4⟩) | (go_at_call 27; with_reducible refine (must_ok _ _).mono ?_; rintro e w' ⟨rfl, rfl⟩) | (go_at_call 27; with_reducible refine (must_no 6 _).mono ?_; rintro e w' ⟨rfl, rfl⟩) | (go_at_call 29; with_reducible refine (HU.out _ JZ).mono ?_; rintro e wu ⟨rfl, JU⟩; unfold Told))
            exact ⟨rfl, rfl, JU.2⟩
          | some t =>
            go_enter Tryd.func51, Tryd.ntmps51
            go_wp2_with (first | (go_at_call 36; with_reducible refine (HN.out _).mono ?_; rintro e w' ⟨rfl, nq, rfl⟩; have J0 := HS.out nq) | (go_at_call 33; with_reducible refine (HL0.out _ J0).mono ?_; rintro e w1 ⟨rfl, J1⟩) | (go_at_call 35; with_reducible refine (HP1.out _ J1).mono ?_; rintro e w2 ⟨rfl, J2⟩) | (go_at_call 33; with_reducible refine (HL2.out _ J2).mono ?_; rintro e w3 ⟨rfl, J3⟩) | (go_at_call 35; with_reducible refine (HP3.out _ J3).mono ?_; rintro e w4 ⟨rfl, J4⟩) | (go_at_call 27; with_reducible refine (must_ok _ _).mono ?_; rintro e w' ⟨rfl, rfl⟩) | (go_at_call 27; with_reducible refine (must_no 6 _).mono ?_; rintro e w' ⟨rfl, rfl⟩))
            go_quiet ((go_at_call 39; refine Calls.quiet_of (HC.out _)))
            have JZ := Jat.drewN J4 nq
            go_wp2_with (first | (go_at_call 36; with_reducible refine (HN.out _).mono ?_; rintro e w' ⟨rfl, nq, rfl⟩; have J0 := HS.out nq) | (go_at_call 33; with_reducible refine (HL0.out _ J0).mono ?_; rintro e w1 ⟨rfl, J1⟩) | (go_at_call 35; with_reducible refine (HP1.out _ J1).mono ?_; rintro e w2 ⟨rfl, J2⟩) | (go_at_call 33; with_reducible refine (HL2.out _ J2).mono ?_; rintro e w3 ⟨rfl, J3⟩) | (go_at_call 35; with_reducible refine (HP3.out _ J3).mono ?_; rintro e w4 ⟨rfl, J4⟩) | (go_at_call 27; with_reducible refine (must_ok _ _).mono ?_; rintro e w' ⟨rfl, rfl⟩) | (go_at_call 27; with_reducible refine (must_no 6 _).mono ?_; rintro e w' ⟨rfl, rfl⟩))
            go_at_call 29
            with_reducible refine (HU.out _ JZ).mono ?_
            rintro e wu ⟨rfl, JU⟩
            unfold Told
            have x0 : wu.cell? ⟨w.heap.size, 0, none⟩ = some (.string x) := JU.1.cell 0
            have x1 : wu.cell? ⟨w.heap.size, 1, none⟩ = some (.string ⟨#[]⟩) := JU.1.cell 1
            have f0 := JU.1.f 0
            have f1 := JU.1.f 1
            go_wp2_with fail
            go_at_call 27
            with_reducible refine (must_ok _ _).mono ?_
            rintro e w' ⟨rfl, rfl⟩
            go_wp2_with fail
            have hb := ((JU.1.set 1 (.string ⟨t.toArray⟩)).set 0 (.string x)).set 1 (.string ⟨t.toArray⟩)
            have y0 : _ = some (Value.string x) := ((JU.1.set 1 (.string ⟨t.toArray⟩)).set 0 (.string x)).cell 0
            have y1 : _ = some (Value.string ⟨t.toArray⟩) := hb.cell 1
            (try simp only [Exit.inBlock, Exit.then])
            refine bodyPost_ret (v := .tuple #[.agg #[.string x, .string ⟨t.toArray⟩], .string ⟨rest.toArray⟩]) (by simp [results, Tryd.results51, go_sem]; rw [y0]; dsimp only [Result.andThen]; rw [y1]) rfl ?_
            exact ⟨rfl, ((JU.2.setCell (Nat.le_refl _) _).setCell (Nat.le_refl _) _).setCell (Nat.le_refl _) _⟩

      | false =>
        rw [hb3] at HP3
        rw [if_neg (by decide)]
        cases hb4 : preB r3 ⟨#[34]⟩ with
        | true =>
          rw [hb4] at HP4
          rw [if_pos rfl]
          clear hb3
          obtain ⟨hq1, hq2⟩ := preB_one hb4
          have e4 := sl_from1 r3 hq1
          have e5 := sl_to1 r3 hq1
          rw [hq2] at e5
          unfold attrV
          dsimp only
          have hr4 : (r3.extract 1 r3.size).size ≤ r3.size := by rw [ByteArray.size_extract]; omega
          generalize r3.extract 1 r3.size = r4 at e4 hr4 ⊢
          have hC := fun W => cut_byte r4 34 W (by omega)
          have hul : (cutAt 34 r4.data.toList).1.length ≤ r4.size := by
            have := cutAt_len 34 r4.data.toList
            rw [Lib.size_eq]
            omega
          generalize cutAt 34 r4.data.toList = u at hC hul ⊢
          obtain ⟨v, rest, ok⟩ := u
          dsimp only at hC hul ⊢
          have HC := Lib.hid hC
          clear hC
          clear hle1 hb1 hb4 hk0 hk2 hq1 hq2
          cases ok with
          | false =>
            rw [if_neg (by decide)]
            go_enter Tryd.func51, Tryd.ntmps51
            go_wp2_with (first | (go_at_call 36; with_reducible refine (HN.out _).mono ?_; rintro e w' ⟨rfl, nq, rfl⟩; have J0 := HS.out nq) | (go_at_call 33; with_reducible refine (HL0.out _ J0).mono ?_; rintro e w1 ⟨rfl, J1⟩) | (go_at_call 35; with_reducible refine (HP1.out _ J1).mono ?_; rintro e w2 ⟨rfl, J2⟩) | (go_at_call 33; with_reducible refine (HL2.out _ J2).mono ?_; rintro e w3 ⟨rfl, J3⟩) | (go_at_call 35; with_reducible refine (HP3.out _ J3).mono ?_; rintro e w4 ⟨rfl, J4⟩) | (go_at_call 35; with_reducible refine (HP4.out _ J4).mono ?_; rintro e w5 ⟨rfl, J5⟩) | (go_at_call 27; with_reducible refine (must_ok _ _).mono ?_; rintro e w' ⟨rfl, rfl⟩) | (go_at_call 27; with_reducible refine (must_no 6 _).mono ?_; rintro e w' ⟨rfl, rfl⟩))
            go_quiet ((go_at_call 39; refine Calls.quiet_of (HC.out _)))
            go_wp2_with (first | (go_at_call 36; with_reducible refine (HN.out _).mono ?_; rintro e w' ⟨rfl, nq, rfl⟩; have J0 := HS.out nq) | (go_at_call 33; with_reducible refine (HL0.out _ J0).mono ?_; rintro e w1 ⟨rfl, J1⟩) | (go_at_call 35; with_reducible refine (HP1.out _ J1).mono ?_; rintro e w2 ⟨rfl, J2⟩) | (go_at_call 33; with_reducible refine (HL2.out _ J2).mono ?_; rintro e w3 ⟨rfl, J3⟩) | (go_at_call 35; with_reducible refine (HP3.out _ J3).mono ?_; rintro e w4 ⟨rfl, J4⟩) | (go_at_call 35; with_reducible refine (HP4.out _ J4).mono ?_; rintro e w5 ⟨rfl, J5⟩) | (go_at_call 27; with_reducible refine (must_ok _ _).mono ?_; rintro e w' ⟨rfl, rfl⟩) | (go_at_call 27; with_reducible refine (must_no 6 _).mono ?_; rintro e w' ⟨rfl, rfl⟩))
            exact ⟨rfl, rfl, bdrewN J5.2 _⟩
          | true =>
            rw [if_pos rfl]
            have HU := Lib.hid (unescV w x v (by omega))
            generalize unesc (v.length + 1) v = ot at HU ⊢
            cases ot with
            | none =>
              go_enter Tryd.func51, Tryd.ntmps51
              go_wp2_with (first | (go_at_call 36; with_reducible refine (HN.out _).mono ?_; rintro e w' ⟨rfl, nq, rfl⟩; have J0 := HS.out nq) | (go_at_call 33; with_reducible refine (HL0.out _ J0).mono ?_; rintro e w1 ⟨rfl, J1⟩) | (go_at_call 35; with_reducible refine (HP1.out _ J1).mono ?_; rintro e w2 ⟨rfl, J2⟩) | (go_at_call 33; with_reducible refine (HL2.out _ J2).mono ?_; rintro e w3 ⟨rfl, J3⟩) | (go_at_call 35; with_reducible refine (HP3.out _ J3).mono ?_; rintro e w4 ⟨rfl, J4⟩) | (go_at_call 35; with_reducible refine (HP4.out _ J4).mono ?_; rintro e w5 ⟨rfl, J5⟩) | (go_at_call 27; with_reducible refine (must_ok _ _).mono ?_; rintro e w' ⟨rfl, rfl⟩) | (go_at_call 27; with_reducible refine (must_no 6 _).mono ?_; rintro e w' ⟨rfl, rfl⟩))
              go_quiet ((go_at_call 39; refine Calls.quiet_of (HC.out _)))
              have JZ := Jat.drewN J5 nq
              go_wp2_with (first | (go_at_call 36; with_reducible refine (HN.out _).mono ?_; rintro e w' ⟨rfl, nq, rfl⟩; have J0 := HS.out nq) | (go_at_call 33; with_reducible refine (HL0.out _ J0).mono ?_; rintro e w1 ⟨rfl, J1⟩) | (go_at_call 35; with_reducible refine (HP1.out _ J1).mono ?_; rintro e w2 ⟨rfl, J2⟩) | (go_at_call 33; with_reducible refine (HL2.out _ J2).mono ?_; rintro e w3 ⟨rfl, J3⟩) | (go_at_call 35; with_reducible refine (HP3.out _ J3).mono ?_; rintro e w4 ⟨rfl, J4⟩) | (go_at_call 35; with_reducible refine (HP4.out _ J4).mono ?_; rintro e w5 ⟨rfl, J5⟩) | (go_at_call 27; with_reducible refine (must_ok _ _).mono ?_; rintro e w' ⟨rfl, rfl⟩) | (go_at_call 27; with_reducible refine (must_no 6 _).mono ?_; rintro e w' ⟨rfl, rfl⟩) | (go_at_call 29; with_reducible refine (HU.out _ JZ).mono ?_; rintro e wu ⟨rfl, JU⟩; unfold Told))
              exact ⟨rfl, rfl, JU.2⟩
            | some t =>
              go_enter Tryd.func51, Tryd.ntmps51
              go_wp2_with (first | (go_at_call 36; with_reducible refine (HN.out _).mono ?_; rintro e w' ⟨rfl, nq, rfl⟩; have J0 := HS.out nq) | (go_at_call 33; with_reducible refine (HL0.out _ J0).mono ?_; rintro e w1 ⟨rfl, J1⟩) | (go_at_call 35; with_reducible refine (HP1.out _ J1).mono ?_; rintro e w2 ⟨rfl, J2⟩) | (go_at_call 33; with_reducible refine (HL2.out _ J2).mono ?_; rintro e w3 ⟨rfl, J3⟩) | (go_at_call 35; with_reducible refine (HP3.out _ J3).mono ?_; rintro e w4 ⟨rfl, J4⟩) | (go_at_call 35; with_reducible refine (HP4.out _ J4).mono ?_; rintro e w5 ⟨rfl, J5⟩) | (go_at_call 27; with_reducible refine (must_ok _ _).mono ?_; rintro e w' ⟨rfl, rfl⟩) | (go_at_call 27; with_reducible refine (must_no 6 _).mono ?_; rintro e w' ⟨rfl, rfl⟩))
              go_quiet ((go_at_call 39; refine Calls.quiet_of (HC.out _)))
              have JZ := Jat.drewN J5 nq
              go_wp2_with (first | (go_at_call 36; with_reducible refine (HN.out _).mono ?_; rintro e w' ⟨rfl, nq, rfl⟩; have J0 := HS.out nq) | (go_at_call 33; with_reducible refine (HL0.out _ J0).mono ?_; rintro e w1 ⟨rfl, J1⟩) | (go_at_call 35; with_reducible refine (HP1.out _ J1).mono ?_; rintro e w2 ⟨rfl, J2⟩) | (go_at_call 33; with_reducible refine (HL2.out _ J2).mono ?_; rintro e w3 ⟨rfl, J3⟩) | (go_at_call 35; with_reducible refine (HP3.out _ J3).mono ?_; rintro e w4 ⟨rfl, J4⟩) | (go_at_call 35; with_reducible refine (HP4.out _ J4).mono ?_; rintro e w5 ⟨rfl, J5⟩) | (go_at_call 27; with_reducible refine (must_ok _ _).mono ?_; rintro e w' ⟨rfl, rfl⟩) | (go_at_call 27; with_reducible refine (must_no 6 _).mono ?_; rintro e w' ⟨rfl, rfl⟩))
              go_at_call 29
              with_reducible refine (HU.out _ JZ).mono ?_
              rintro e wu ⟨rfl, JU⟩
              unfold Told
              have x0 : wu.cell? ⟨w.heap.size, 0, none⟩ = some (.string x) := JU.1.cell 0
              have x1 : wu.cell? ⟨w.heap.size, 1, none⟩ = some (.string ⟨#[]⟩) := JU.1.cell 1
              have f0 := JU.1.f 0
              have f1 := JU.1.f 1
              go_wp2_with fail
              go_at_call 27
              with_reducible refine (must_ok _ _).mono ?_
              rintro e w' ⟨rfl, rfl⟩
              go_wp2_with fail
              have hb := ((JU.1.set 1 (.string ⟨t.toArray⟩)).set 0 (.string x)).set 1 (.string ⟨t.toArray⟩)
              have y0 : _ = some (Value.string x) := ((JU.1.set 1 (.string ⟨t.toArray⟩)).set 0 (.string x)).cell 0
              have y1 : _ = some (Value.string ⟨t.toArray⟩) := hb.cell 1
              (try simp only [Exit.inBlock, Exit.then])
              refine bodyPost_ret (v := .tuple #[.agg #[.string x, .string ⟨t.toArray⟩], .string ⟨rest.toArray⟩]) (by simp [results, Tryd.results51, go_sem]; rw [y0]; dsimp only [Result.andThen]; rw [y1]) rfl ?_
              exact ⟨rfl, ((JU.2.setCell (Nat.le_refl _) _).setCell (Nat.le_refl _) _).setCell (Nat.le_refl _) _⟩

        | false =>
          rw [hb4] at HP4
          rw [if_neg (by decide)]
          clear hle1 hr1 hr2 hr3 hb1 hb3 hb4 hk0 hk2
          go_enter Tryd.func51, Tryd.ntmps51
          go_wp2_with (first | (go_at_call 36; with_reducible refine (HN.out _).mono ?_; rintro e w' ⟨rfl, nq, rfl⟩; have J0 := HS.out nq) | (go_at_call 33; with_reducible refine (HL0.out _ J0).mono ?_; rintro e w1 ⟨rfl, J1⟩) | (go_at_call 35; with_reducible refine (HP1.out _ J1).mono ?_; rintro e w2 ⟨rfl, J2⟩) | (go_at_call 33; with_reducible refine (HL2.out _ J2).mono ?_; rintro e w3 ⟨rfl, J3⟩) | (go_at_call 35; with_reducible refine (HP3.out _ J3).mono ?_; rintro e w4 ⟨rfl, J4⟩) | (go_at_call 35; with_reducible refine (HP4.out _ J4).mono ?_; rintro e w5 ⟨rfl, J5⟩) | (go_at_call 27; with_reducible refine (must_ok _ _).mono ?_; rintro e w' ⟨rfl, rfl⟩) | (go_at_call 27; with_reducible refine (must_no 6 _).mono ?_; rintro e w' ⟨rfl, rfl⟩))
          exact ⟨rfl, rfl, J5.2⟩
end Go.Proofs.YtppgjkjdddanbaaDoor
