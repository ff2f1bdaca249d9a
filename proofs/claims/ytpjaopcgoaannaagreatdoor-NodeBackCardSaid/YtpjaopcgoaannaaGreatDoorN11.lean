/- node.Role, Sub, refused, newest. -/
import Derived.Test.YtpjaopcgoaannaaGreatDoorN10
namespace Go.Proofs.YtpjaopcgoaannaaGreatDoor
open Go.RowKit
open Hb

theorem SlE.form {α : Type} {enc : α → List Value} {k : Nat} {w : World} {v : Value} {l : List α} (h : SlE enc k w v l) : ∃ a c, v = .slice a l.length c := by
  obtain ⟨a, c, e, _⟩ := h
  exact ⟨a, c, e⟩
theorem SlE.at {α : Type} {enc : α → List Value} {k : Nat} {w : World} {a : Option Addr} {n c : Nat} {l : List α} (h : SlE enc k w (.slice a n c) l) (i : Nat) (hi : i < l.length) : ∃ g off, a = some ⟨g, off, none⟩ ∧ ∀ j, j < k → w.cell? ⟨g, off + i * k + j, none⟩ = (enc l[i])[j]? := by
  obtain ⟨a', c', e, _, h⟩ := h
  cases e
  rcases h with rfl | ⟨g, off, ha, _, hx⟩
  · cases hi
  · exact ⟨g, off, ha, fun j hj => hx i hi j hj⟩

theorem roleP_any (x : PAff) (who : ByteArray) (b : Nat) (w : World) (hb : w.cell? ⟨b, 0, none⟩ = some (.string who)) :
    Calls Tryz.prog 44 #[.agg x.enc.toArray, .pointer (some ⟨b, 0, none⟩)] w fun e w' => e = .returned (.bool (eqS x.jid who)) ∧ Below w.heap.size w w' := by
  unfold PAff.enc
  generalize x.jid = a
  generalize x.role = a1
  have h2' := Lib.cell?_alloc_some (.cells #[.string a, .int .u8 a1] 49) hb
  go_enter Tryz.func44, Tryz.ntmps44
  go_wp2_with fail
  go_returns
  exact ⟨by rw [eqS_def]; rfl, (Below.refl _ _).alloc (Nat.le_refl _) _⟩
theorem subP_any (x : PSub) (who : ByteArray) (b : Nat) (w : World) (hb : w.cell? ⟨b, 0, none⟩ = some (.string who)) :
    Calls Tryz.prog 42 #[.agg x.enc.toArray, .pointer (some ⟨b, 0, none⟩)] w fun e w' => e = .returned (.bool (eqS x.jid who)) ∧ Below w.heap.size w w' := by
  unfold PSub.enc
  generalize x.jid = a
  generalize x.pending = a1
  generalize x.depth = a2
  have h2' := Lib.cell?_alloc_some (.cells #[.string a, .bool a1, .int .i64 a2] 51) hb
  go_enter Tryz.func42, Tryz.ntmps42
  go_wp2_with fail
  go_returns
  exact ⟨by rw [eqS_def]; rfl, (Below.refl _ _).alloc (Nat.le_refl _) _⟩

theorem one (w : World) (T : TypeId) (xs : List Value) : ∃ W0, w.alloc (.cells xs.toArray T) = W0 ∧ Below w.heap.size w W0 ∧ RowI W0 w.heap.size T xs.length xs ∧ W0.heap.size = w.heap.size + 1 := by
  have h := RowI.new w T xs []
  rw [List.append_nil] at h
  exact ⟨_, rfl, (Below.refl w.heap.size w).alloc (Nat.le_refl _) _, h, by simp⟩
theorem two (w : World) (T1 T2 : TypeId) (xs ys : List Value) : ∃ W0, (w.alloc (.cells xs.toArray T1)).alloc (.cells ys.toArray T2) = W0 ∧ Below w.heap.size w W0 ∧ RowI W0 w.heap.size T1 xs.length xs ∧ RowI W0 (w.heap.size + 1) T2 ys.length ys ∧ W0.heap.size = w.heap.size + 2 := by
  obtain ⟨W1, h1, b1, r1, s1⟩ := one w T1 xs
  obtain ⟨W2, h2, b2, r2, s2⟩ := one W1 T2 ys
  rw [h1]
  exact ⟨W2, h2, b1.trans (b2.mono b1.size), r1.below b2, by rw [← s1]; exact r2, by rw [s2, s1]⟩

set_option maxRecDepth 100000 in
set_option maxHeartbeats 4000000 in
theorem role_any (v : Value) (n : PNode) (who : ByteArray) (w : World) (hv : NodeV w v n) (hn : n.affs.length ≤ 100000000) :
    Calls Tryz.prog 22 #[v, .string who] w fun e w' => e = .returned (.int .u8 (roleN n who)) ∧ Below w.heap.size w w' := by
  obtain ⟨A, S, I, rfl, hA, hS, hI⟩ := hv
  obtain ⟨aA, cA, rfl⟩ := hA.form
  obtain ⟨aS, cS, rfl⟩ := hS.form
  obtain ⟨aI, cI, rfl⟩ := hI.form
  obtain ⟨W0, hW0, hB0, hr1, hr2, hs⟩ := two w 27 9 [.string n.name, .bool n.coll, .int .u8 n.access, .int .i64 n.max, .slice aA n.affs.length cA, .slice aS n.subs.length cS, .slice aI n.items.length cI, .string n.parent] [.string who]
  have hO := idxAff_any 44 #[.pointer (some ⟨w.heap.size + 1, 0, none⟩)] (enters_of Tryz.func44 (by kernel_rfl) rfl) (fun x => eqS x.jid who) _ n.affs W0 (hA.below hB0)
      (fun x W' hW' => roleP_any x who (w.heap.size + 1) W' ((hr2.below hW').at 0 _ rfl)) hn
  have hc : W0.cell? ⟨w.heap.size, 4, none⟩ = some (.slice aA n.affs.length cA) := hr1.at 4 _ rfl
  have HO := Lib.hid hO
  have HW := Lib.hid hW0
  have HB := Lib.hid hB0
  have HR := Lib.hid hr1
  clear hO hW0 hB0 hr1 hr2 hs
  have hcase := idxP_cases (fun x : PAff => eqS x.jid who) n.affs
  have hrole : roleN n who = match n.affs.find? (fun x => eqS x.jid who) with | some a => a.role | none => 2 := rfl
  generalize n.name = f0 at *
  generalize n.coll = f1 at *
  generalize n.access = f2 at *
  generalize n.max = f3 at *
  generalize n.parent = f7 at *
  rcases hcase with ⟨e1, e2, _⟩ | ⟨k, hk, e1, e2, _, _⟩
  · rw [e1] at HO
    rw [e2] at hrole
    rw [hrole]
    clear e1 e2 hrole
    go_enter Tryz.func22, Tryz.ntmps22
    go_wp2_with fail
    rw [HW.out]
    with_reducible refine HO.out.mono ?_
    rintro e w1 ⟨rfl, hB1⟩
    go_wp2_with fail
    go_returns
    exact ⟨rfl, HB.out.trans (hB1.mono HB.out.size)⟩
  · rw [e1] at HO
    rw [e2] at hrole
    obtain ⟨z, hzz⟩ : ∃ z, n.affs[k].role = z := ⟨_, rfl⟩
    rw [hrole.trans hzz]
    clear e1 e2 hrole
    obtain ⟨g, off, rfl, hx⟩ := hA.at k hk
    have hcx : ∀ W, Below w.heap.size w W → W.cell? ⟨g, off + k * 2 + 1, none⟩ = some (.int .u8 z) := fun W hW => by
      have h1 := hx 1 (by omega)
      rw [show (n.affs[k]).enc[1]? = some (.int .u8 z) by rw [← hzz]; rfl] at h1
      have hg : g < w.heap.size := World.block_lt_of_cell? _ _ h1
      exact (hW.cell (p := ⟨g, off + k * 2 + 1, none⟩) hg).trans h1
    have HX := Lib.hid hcx
    clear hcx hx hzz
    go_enter Tryz.func22, Tryz.ntmps22
    go_wp2_with fail
    rw [HW.out]
    with_reducible refine HO.out.mono ?_
    rintro e w1 ⟨rfl, hB1⟩
    have hB01 := HB.out.trans (hB1.mono HB.out.size)
    have hz := HX.out w1 hB01
    have hc1 : w1.cell? ⟨w.heap.size, 4, none⟩ = some (.slice (some ⟨g, off, none⟩) n.affs.length cA) := (HR.out.below hB1).at 4 _ rfl
    go_wp2_with fail
    go_returns
    exact ⟨rfl, hB01⟩

set_option maxRecDepth 100000 in
set_option maxHeartbeats 4000000 in
theorem sub_any (v : Value) (n : PNode) (who : ByteArray) (w : World) (hv : NodeV w v n) (hn : n.subs.length ≤ 100000000) :
    Calls Tryz.prog 20 #[v, .string who] w fun e w' => e = .returned (.tuple #[.agg #[.string (subN n who).1.jid, .bool (subN n who).1.pending, .int .i64 (subN n who).1.depth], .bool (subN n who).2]) ∧ Below w.heap.size w w' := by
  obtain ⟨A, S, I, rfl, hA, hS, hI⟩ := hv
  obtain ⟨aA, cA, rfl⟩ := hA.form
  obtain ⟨aS, cS, rfl⟩ := hS.form
  obtain ⟨aI, cI, rfl⟩ := hI.form
  obtain ⟨W1, hW1, hB1, hr1, hr2, hs⟩ := two w 27 9 [.string n.name, .bool n.coll, .int .u8 n.access, .int .i64 n.max, .slice aA n.affs.length cA, .slice aS n.subs.length cS, .slice aI n.items.length cI, .string n.parent] [.string who]
  obtain ⟨W0, hW0, hB0, hr3, hs3⟩ := one W1 51 [.string ⟨#[]⟩, .bool false, .int .i64 0]
  have hB := hB1.trans (hB0.mono hB1.size)
  rw [show W1.heap.size = w.heap.size + 1 + 1 from hs] at hr3
  have hO := idxSub_any 42 #[.pointer (some ⟨w.heap.size + 1, 0, none⟩)] (enters_of Tryz.func42 (by kernel_rfl) rfl) (fun x => eqS x.jid who) _ n.subs W0 (hS.below hB)
      (fun x W' hW' => subP_any x who (w.heap.size + 1) W' (((hr2.below hB0).below hW').at 0 _ rfl)) hn
  have hc : W0.cell? ⟨w.heap.size, 5, none⟩ = some (.slice aS n.subs.length cS) := (hr1.below hB0).at 5 _ rfl
  have HO := Lib.hid hO
  have HW : Hid (((w.alloc (.cells #[.string n.name, .bool n.coll, .int .u8 n.access, .int .i64 n.max, .slice aA n.affs.length cA, .slice aS n.subs.length cS, .slice aI n.items.length cI, .string n.parent] 27)).alloc (.cells #[.string who] 9)).alloc (.cells #[.string ⟨#[]⟩, .bool false, .int .i64 0] 51) = W0) := by rw [← hW0, ← hW1]; rfl
  have HB := Lib.hid hB
  have HR := Lib.hid (hr1.below hB0)
  have HR3 := Lib.hid hr3
  clear hO hW0 hB0 hr1 hr2 hr3 hs hs3 hW1 hB hB1
  have hcase := idxP_cases (fun x : PSub => eqS x.jid who) n.subs
  have hsub : subN n who = match n.subs.find? (fun x => eqS x.jid who) with | some a => (a, true) | none => (⟨⟨#[]⟩, false, 0⟩, false) := rfl
  generalize n.name = f0 at *
  generalize n.coll = f1 at *
  generalize n.access = f2 at *
  generalize n.max = f3 at *
  generalize n.parent = f7 at *
  rcases hcase with ⟨e1, e2, _⟩ | ⟨k, hk, e1, e2, _, _⟩
  · rw [e1] at HO
    rw [e2] at hsub
    rw [hsub]
    clear e1 e2 hsub
    go_enter Tryz.func20, Tryz.ntmps20
    go_wp2_with fail
    rw [HW.out]
    with_reducible refine HO.out.mono ?_
    rintro e w1 ⟨rfl, hB1⟩
    have hR := HR3.out.below hB1
    have c0 : w1.cell? ⟨w.heap.size + 1 + 1, 0, none⟩ = some (.string ⟨#[]⟩) := hR.at 0 _ rfl
    have c1 : w1.cell? ⟨w.heap.size + 1 + 1, 1, none⟩ = some (.bool false) := hR.at 1 _ rfl
    have c2 : w1.cell? ⟨w.heap.size + 1 + 1, 2, none⟩ = some (.int .i64 0) := hR.at 2 _ rfl
    have fr : ∀ j, w1.frozen? ⟨w.heap.size + 1 + 1, j, none⟩ = false := fun j => hR.frozen j
    have s1 := hR.set 0 (by decide) (.string ⟨#[]⟩)
    have s2 := s1.set 1 (by simp) (.bool false)
    have s3 := s2.set 2 (by simp) (.int .i64 0)
    have g0 := s1.at 0 _ rfl
    have g1 := s2.at 1 _ rfl
    have g2 := s3.at 2 _ rfl
    clear s1 s2 s3 hR
    go_wp2_with fail
    refine bodyPost_ret (by simp [results, Tryz.results20, go_sem, g0, g1, g2]; try rfl) rfl ?_
    exact ⟨rfl, (((HB.out.trans (hB1.mono HB.out.size)).setCell (by show w.heap.size ≤ w.heap.size + 1 + 1; omega) _).setCell (by show w.heap.size ≤ w.heap.size + 1 + 1; omega) _).setCell (by show w.heap.size ≤ w.heap.size + 1 + 1; omega) _⟩
  · rw [e1] at HO
    rw [e2] at hsub
    obtain ⟨g, off, rfl, hx⟩ := hS.at k hk
    have hg : g < w.heap.size := World.block_lt_of_cell? _ _ (hx 0 (by omega))
    obtain ⟨x, hxk⟩ : ∃ x, n.subs[k] = x := ⟨_, rfl⟩
    rw [hsub, hxk]
    rw [hxk] at hx
    have HX := Lib.hid hx
    clear hx hxk e1 e2 hsub
    go_enter Tryz.func20, Tryz.ntmps20
    go_wp2_with fail
    rw [HW.out]
    with_reducible refine HO.out.mono ?_
    rintro e w1 ⟨rfl, hB1⟩
    have hB01 := HB.out.trans (hB1.mono HB.out.size)
    have y0 : w1.cell? ⟨g, off + k * 3, none⟩ = some (.string x.jid) := (hB01.cell (p := ⟨g, off + k * 3, none⟩) hg).trans (HX.out 0 (by omega))
    have y1 : w1.cell? ⟨g, off + k * 3 + 1, none⟩ = some (.bool x.pending) := (hB01.cell (p := ⟨g, off + k * 3 + 1, none⟩) hg).trans (HX.out 1 (by omega))
    have y2 : w1.cell? ⟨g, off + k * 3 + 2, none⟩ = some (.int .i64 x.depth) := (hB01.cell (p := ⟨g, off + k * 3 + 2, none⟩) hg).trans (HX.out 2 (by omega))
    have hc1 : w1.cell? ⟨w.heap.size, 5, none⟩ = some (.slice (some ⟨g, off, none⟩) n.subs.length cS) := (HR.out.below hB1).at 5 _ rfl
    have hR := HR3.out.below hB1
    have c0 : w1.cell? ⟨w.heap.size + 1 + 1, 0, none⟩ = some (.string ⟨#[]⟩) := hR.at 0 _ rfl
    have c1 : w1.cell? ⟨w.heap.size + 1 + 1, 1, none⟩ = some (.bool false) := hR.at 1 _ rfl
    have c2 : w1.cell? ⟨w.heap.size + 1 + 1, 2, none⟩ = some (.int .i64 0) := hR.at 2 _ rfl
    have fr : ∀ j, w1.frozen? ⟨w.heap.size + 1 + 1, j, none⟩ = false := fun j => hR.frozen j
    have s1 := hR.set 0 (by decide) (.string x.jid)
    have s2 := s1.set 1 (by simp) (.bool x.pending)
    have s3 := s2.set 2 (by simp) (.int .i64 x.depth)
    have g0 := s1.at 0 _ rfl
    have g1 := s2.at 1 _ rfl
    have g2 := s3.at 2 _ rfl
    clear s1 s2 s3 hR
    go_wp2_with fail
    refine bodyPost_ret (by simp [results, Tryz.results20, go_sem, g0, g1, g2]; try rfl) rfl ?_
    exact ⟨rfl, ((hB01.setCell (by show w.heap.size ≤ w.heap.size + 1 + 1; omega) _).setCell (by show w.heap.size ≤ w.heap.size + 1 + 1; omega) _).setCell (by show w.heap.size ≤ w.heap.size + 1 + 1; omega) _⟩

set_option maxHeartbeats 4000000 in
theorem refused_any (c : Int) (w : World) : Calls Tryz.prog 38 #[.int .i64 c] w fun e w' => ∃ v, e = .returned (.tuple #[v, .int .i64 c]) ∧ NodeV w' v noNode ∧ Below w.heap.size w w' := by
  go_enter Tryz.func38, Tryz.ntmps38
  go_wp2_with fail
  go_returns
  refine ⟨_, rfl, ⟨.slice none 0 0, .slice none 0 0, .slice none 0 0, rfl, SlE.nil _, SlE.nil _, SlE.nil _⟩, (Below.refl _ _).alloc (Nat.le_refl _) _⟩

theorem SlE.drop {α : Type} {enc : α → List Value} {k : Nat} {w : World} {a : Option Addr} {n c : Nat} {l : List α} (h : SlE enc k w (.slice a n c) l) (lo : Nat) (hlo : lo ≤ l.length) : n = l.length ∧ SlE enc k w (.slice (if c = lo then a else a.map (·.add (lo * k))) (l.length - lo) (c - lo)) (l.drop lo) := by
  obtain ⟨a', c', e, hc, h⟩ := h
  cases e
  refine ⟨rfl, _, c - lo, by rw [List.length_drop], by rw [List.length_drop]; omega, ?_⟩
  rcases h with rfl | ⟨g, off, rfl, hg, hx⟩
  · exact .inl (by simp)
  · by_cases hcl : c = lo
    · left
      exact List.drop_eq_nil_of_le (by omega)
    · right
      rw [if_neg hcl]
      have ha : (⟨g, off, none⟩ : Addr).add (lo * k) = ⟨g, off + lo * k, none⟩ := by unfold Addr.add; split <;> simp_all
      refine ⟨g, off + lo * k, by rw [Option.map_some, ha], hg, fun i hi j hj => ?_⟩
      rw [List.length_drop] at hi
      have := hx (lo + i) (by omega) j hj
      rw [List.getElem_drop, ← this]
      congr 2
      rw [Nat.add_mul]
      omega
end Go.Proofs.YtpjaopcgoaannaaGreatDoor
