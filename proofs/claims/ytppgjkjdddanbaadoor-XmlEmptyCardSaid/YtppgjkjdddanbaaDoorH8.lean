/- The reference's Same: of the same tokens it says so. -/
import Derived.Test.YtppgjkjdddanbaaDoorH3
namespace Go.Proofs.YtppgjkjdddanbaaDoor
open Go.RowKit
open Hb

theorem attrAt {w : World} {va : Value} {l : List (ByteArray × ByteArray)} (h : AttrRow w va l) : ∃ a c, va = .slice a l.length c ∧ ∀ k (hk : k < l.length), ∃ g, a = some ⟨g, 0, none⟩ ∧ w.cell? ⟨g, k * 2, none⟩ = some (.string l[k].1) ∧ w.cell? ⟨g, k * 2 + 1, none⟩ = some (.string l[k].2) := by
  rcases h.2 with ⟨e1, e2⟩ | ⟨g, cap, cur, e1, _⟩
  · exact ⟨none, 0, by rw [e1, e2], fun k hk => by omega⟩
  · refine ⟨_, cap, e1, fun k hk => ⟨g, rfl, ?_⟩⟩
    rw [e1] at h
    exact attrCells h k hk

theorem two_boxes (w : World) (T : TypeId) (c1 c2 : Array Value) : Box ((w.alloc (.cells c1 T)).alloc (.cells c2 T)).drew w.heap.size T c1 ∧ Box ((w.alloc (.cells c1 T)).alloc (.cells c2 T)).drew (w.heap.size + 1) T c2 ∧ Below w.heap.size w ((w.alloc (.cells c1 T)).alloc (.cells c2 T)).drew := by
  have h1 : Box (w.alloc (.cells c1 T)) w.heap.size T c1 := (MapKept.heap_alloc w _).1
  have h2 : Box ((w.alloc (.cells c1 T)).alloc (.cells c2 T)) (w.alloc (.cells c1 T)).heap.size T c2 := (MapKept.heap_alloc _ _).1
  rw [World.size_alloc] at h2
  have b1 := (Below.refl w.heap.size w).alloc (Nat.le_refl _) (.cells c1 T)
  exact ⟨(Below.heap_alloc _ (.cells c2 T) _ h1.lt).trans h1, h2, (b1.alloc b1.size (.cells c2 T)).drew⟩

theorem cmp_attr (a b : ByteArray) (W : World) : (binOp .neq 53 (.agg #[.string a, .string b]) (.agg #[.string a, .string b])).run Tryd.prog W = .ok (.bool false) W := by
  have hS : Tryd.prog.underlying 53 = some (.struct (Tryd.prog.fieldsOf 53)) := by kernel_rfl
  have hp : Tryd.prog.stoodInHeld 53 = false := by kernel_rfl
  have hf : (Tryd.prog.fieldsOf 53).toList = (Tryd.prog.fieldsOf 53).toList := rfl
  rw [run_neq_struct, show (10000 : Nat) = 9999 + 1 from rfl, run_equalIn_agg W 9999 53 _ _ hS hp]
  have u9 := Tryd.underlying9
  have a9 := Tryd.isAgg9
  have z9 := Tryd.sizeOf9
  simp only [Program.fieldsOf, Tryd.underlying53]
  go_simp

set_option maxRecDepth 100000 in
set_option maxHeartbeats 8000000 in
theorem same_any (b1 b2 : Nat) (v1 v2 : Value) (ts : List Tok) (w : World) (h1 : Told2 w b1 v1 ts) (h2 : Told2 w b2 v2 ts) (hn : ts.length ≤ 1000000000) (hat : ∀ t ∈ ts, t.attrs.length ≤ 1000000000) :
    Calls Tryd.prog 16 #[v1, v2] w fun e w' => e = .returned (.bool true) ∧ Below w.heap.size w w' := by
  obtain ⟨a1, c1, rfl, hg1⟩ := h1.nilOr
  obtain ⟨a2, c2, rfl, hg2⟩ := h2.nilOr
  have H1 := Lib.hid h1
  have H2 := Lib.hid h2
  have G1 := Lib.hid hg1
  have G2 := Lib.hid hg2
  have HAT := Lib.hid hat
  clear h1 h2 hg1 hg2 hat
  have cn : ((ts.length : Int) != (ts.length : Int)) = false := by simp
  go_enter Tryd.func16, Tryd.ntmps16
  go_wp2_with fail
  go_loopw [5] (fun iv W => ∃ k : Nat, k ≤ ts.length ∧ iv = .int .i64 k ∧ Hid (Below w.heap.size w W)) (fun iv _ => ts.length - (intOf iv).toNat)
  case atStart => exact ⟨0, Nat.zero_le _, rfl, Below.refl _ _⟩
  case round =>
    obtain ⟨k, hk, rfl, HB⟩ := hrel
    by_cases hlt : k < ts.length
    · have ck : decide ((k : Int) < (ts.length : Int)) = true := by simp; omega
      have hne : ts ≠ [] := fun h => by rw [h] at hlt; cases hlt
      obtain ⟨g1, e1, _, hl1, _⟩ := G1.out hne
      obtain ⟨g2, e2, _, hl2, _⟩ := G2.out hne
      subst e1
      subst e2
      obtain ⟨va1, y0, y1, y2, y3, ya⟩ := (H1.out.below HB.out).at k hlt
      obtain ⟨va2, z0, z1, z2, z3, za⟩ := (H2.out.below HB.out).at k hlt
      have hal := HAT.out ts[k] (List.getElem_mem hlt)
      generalize ts[k] = t at y0 y1 y3 ya z0 z1 z3 za hal
      obtain ⟨ad1, cc1, rfl, hca1⟩ := attrAt ya
      obtain ⟨ad2, cc2, rfl, hca2⟩ := attrAt za
      have HC1 := Lib.hid hca1
      have HC2 := Lib.hid hca2
      clear hne ya za hca1 hca2
      have q1 : g1 < wr.heap.size := Nat.lt_of_lt_of_le hl1 HB.out.size
      have q2 : g2 < wr.heap.size := Nat.lt_of_lt_of_le hl2 HB.out.size
      have n1 : ¬ g1 = wr.heap.size := by omega
      have n2 : ¬ g2 = wr.heap.size := by omega
      have n3 : ¬ g1 = wr.heap.size + 1 := by omega
      have n4 : ¬ g2 = wr.heap.size + 1 := by omega
      have n5 : ¬ wr.heap.size = g1 := by omega
      have n6 : ¬ wr.heap.size = g2 := by omega
      have n7 : ¬ wr.heap.size + 1 = g1 := by omega
      have n8 : ¬ wr.heap.size + 1 = g2 := by omega
      go_wp2_with fail
      go_region
      · obtain ⟨p1, p2, p3⟩ := two_boxes wr 34 #[.int .u8 t.kind, .string t.name, .slice ad1 t.attrs.length cc1, .string t.text] #[.int .u8 t.kind, .string t.name, .slice ad2 t.attrs.length cc2, .string t.text]
        have HX0 := Lib.hid p1
        have HY0 := Lib.hid p2
        have HP3 := Lib.hid p3
        clear p1 p2 p3
        go_wp2_with fail
        go_loopw [8] (fun jv W => ∃ j : Nat, j ≤ t.attrs.length ∧ jv = .int .i64 j ∧ Hid (Box W wr.heap.size 34 #[.int .u8 t.kind, .string t.name, .slice ad1 t.attrs.length cc1, .string t.text]) ∧ Hid (Box W (wr.heap.size + 1) 34 #[.int .u8 t.kind, .string t.name, .slice ad2 t.attrs.length cc2, .string t.text]) ∧ Hid (Below wr.heap.size wr W)) (fun jv _ => t.attrs.length - (intOf jv).toNat)
        case atStart => exact ⟨0, Nat.zero_le _, rfl, HX0.out, HY0.out, HP3.out⟩
        case round =>
          obtain ⟨j, hj, rfl, HX, HY, HBJ⟩ := hrel
          have u2 : _ = some (Value.slice ad1 t.attrs.length cc1) := HX.out.cell 2
          have u3 : _ = some (Value.slice ad2 t.attrs.length cc2) := HY.out.cell 2
          by_cases hja : j < t.attrs.length
          · have cj : decide ((j : Int) < (t.attrs.length : Int)) = true := by simp; omega
            obtain ⟨ga1, e1, r1, r2⟩ := HC1.out j hja
            obtain ⟨ga2, e2, r3, r4⟩ := HC2.out j hja
            subst e1
            subst e2
            have s1 : _ = some (Value.string t.attrs[j].1) := (HBJ.out.cell (p := ⟨ga1, j * 2, none⟩) (World.block_lt_of_cell? _ _ r1)).trans r1
            have s2 : _ = some (Value.string t.attrs[j].2) := (HBJ.out.cell (p := ⟨ga1, j * 2 + 1, none⟩) (World.block_lt_of_cell? _ _ r2)).trans r2
            have s3 : _ = some (Value.string t.attrs[j].1) := (HBJ.out.cell (p := ⟨ga2, j * 2, none⟩) (World.block_lt_of_cell? _ _ r3)).trans r3
            have s4 : _ = some (Value.string t.attrs[j].2) := (HBJ.out.cell (p := ⟨ga2, j * 2 + 1, none⟩) (World.block_lt_of_cell? _ _ r4)).trans r4
            have hcmp := cmp_attr t.attrs[j].1 t.attrs[j].2
            have b1 : (0 : Int) ≤ (j : Int) := by omega
            have b2 : (j : Int) < (t.attrs.length : Int) := by omega
            clear r1 r2 r3 r4
            generalize t.attrs[j].1 = x1 at s1 s3 hcmp
            generalize t.attrs[j].2 = x2 at s2 s4 hcmp
            go_wp2_with fail
            go_quiet (fail)
            go_wp2_with fail
            go_roundw
            case rel => exact ⟨j + 1, by omega, by go_num, HX.out, HY.out, bdrewN HBJ.out _⟩
            case measure => simp [intOf]; omega
          · have cj : decide ((j : Int) < (t.attrs.length : Int)) = false := by simp; omega
            go_wp2_with fail
            go_roundw
            case rel => exact ⟨k + 1, by omega, by go_num, HB.out.trans (HBJ.out.mono HB.out.size)⟩
            case measure => simp [intOf]; omega
      · obtain ⟨p1, p2, p3⟩ := two_boxes wr 34 #[.int .u8 t.kind, .string t.name, .slice ad2 t.attrs.length cc2, .string t.text] #[.int .u8 t.kind, .string t.name, .slice ad1 t.attrs.length cc1, .string t.text]
        have HX0 := Lib.hid p2
        have HY0 := Lib.hid p1
        have HP3 := Lib.hid p3
        clear p1 p2 p3
        go_wp2_with fail
        go_loopw [8] (fun jv W => ∃ j : Nat, j ≤ t.attrs.length ∧ jv = .int .i64 j ∧ Hid (Box W (wr.heap.size + 1) 34 #[.int .u8 t.kind, .string t.name, .slice ad1 t.attrs.length cc1, .string t.text]) ∧ Hid (Box W wr.heap.size 34 #[.int .u8 t.kind, .string t.name, .slice ad2 t.attrs.length cc2, .string t.text]) ∧ Hid (Below wr.heap.size wr W)) (fun jv _ => t.attrs.length - (intOf jv).toNat)
        case atStart => exact ⟨0, Nat.zero_le _, rfl, HX0.out, HY0.out, HP3.out⟩
        case round =>
          obtain ⟨j, hj, rfl, HX, HY, HBJ⟩ := hrel
          have u2 : _ = some (Value.slice ad1 t.attrs.length cc1) := HX.out.cell 2
          have u3 : _ = some (Value.slice ad2 t.attrs.length cc2) := HY.out.cell 2
          by_cases hja : j < t.attrs.length
          · have cj : decide ((j : Int) < (t.attrs.length : Int)) = true := by simp; omega
            obtain ⟨ga1, e1, r1, r2⟩ := HC1.out j hja
            obtain ⟨ga2, e2, r3, r4⟩ := HC2.out j hja
            subst e1
            subst e2
            have s1 : _ = some (Value.string t.attrs[j].1) := (HBJ.out.cell (p := ⟨ga1, j * 2, none⟩) (World.block_lt_of_cell? _ _ r1)).trans r1
            have s2 : _ = some (Value.string t.attrs[j].2) := (HBJ.out.cell (p := ⟨ga1, j * 2 + 1, none⟩) (World.block_lt_of_cell? _ _ r2)).trans r2
            have s3 : _ = some (Value.string t.attrs[j].1) := (HBJ.out.cell (p := ⟨ga2, j * 2, none⟩) (World.block_lt_of_cell? _ _ r3)).trans r3
            have s4 : _ = some (Value.string t.attrs[j].2) := (HBJ.out.cell (p := ⟨ga2, j * 2 + 1, none⟩) (World.block_lt_of_cell? _ _ r4)).trans r4
            have hcmp := cmp_attr t.attrs[j].1 t.attrs[j].2
            have b1 : (0 : Int) ≤ (j : Int) := by omega
            have b2 : (j : Int) < (t.attrs.length : Int) := by omega
            clear r1 r2 r3 r4
            generalize t.attrs[j].1 = x1 at s1 s3 hcmp
            generalize t.attrs[j].2 = x2 at s2 s4 hcmp
            go_wp2_with fail
            go_quiet (fail)
            go_wp2_with fail
            go_roundw
            case rel => exact ⟨j + 1, by omega, by go_num, HX.out, HY.out, bdrewN HBJ.out _⟩
            case measure => simp [intOf]; omega
          · have cj : decide ((j : Int) < (t.attrs.length : Int)) = false := by simp; omega
            go_wp2_with fail
            go_roundw
            case rel => exact ⟨k + 1, by omega, by go_num, HB.out.trans (HBJ.out.mono HB.out.size)⟩
            case measure => simp [intOf]; omega
    · have ck : decide ((k : Int) < (ts.length : Int)) = false := by simp; omega
      go_wp2_with fail
      go_returns
      exact ⟨rfl, HB.out⟩
end Go.Proofs.YtppgjkjdddanbaaDoor
