/- jid.Parse: what it answers. -/
import Derived.Test.YtpjaopcgoaannaaGreatDoorJ3
import Derived.Test.YtpjaopcgoaannaaGreatDoorCut
import Derived.ScopeJumps
import Derived.WalkMore
namespace Go.Proofs.YtpjaopcgoaannaaGreatDoor
open Go.RowKit
open Hb

def cutS (c : UInt8) (s : ByteArray) : ByteArray × ByteArray × Bool := (⟨(cutAt c s.data.toList).1.toArray⟩, ⟨(cutAt c s.data.toList).2.1.toArray⟩, (cutAt c s.data.toList).2.2)
def parseB (s : ByteArray) : Option (ByteArray × ByteArray × ByteArray) :=
  if (cutS 47 s).2.2 = true ∧ partB (cutS 47 s).2.1 = false then none
  else if (cutS 64 (cutS 47 s).1).2.2 = true then
    (if partB (cutS 64 (cutS 47 s).1).1 = false then none
     else if jidRight (cutS 64 (cutS 47 s).1).1 (cutS 64 (cutS 47 s).1).2.1 (cutS 47 s).2.1 = true then some ((cutS 64 (cutS 47 s).1).1, (cutS 64 (cutS 47 s).1).2.1, (cutS 47 s).2.1) else none)
  else if jidRight ⟨#[]⟩ (cutS 47 s).1 (cutS 47 s).2.1 = true then some (⟨#[]⟩, (cutS 47 s).1, (cutS 47 s).2.1) else none

def ParseTold (o : Option (ByteArray × ByteArray × ByteArray)) : Value := match o with
  | some (l, d, r) => .tuple #[.agg #[.string l, .string d, .string r], .int .i64 0]
  | none => .tuple #[.agg #[.string ⟨#[]⟩, .string ⟨#[]⟩, .string ⟨#[]⟩], .int .i64 3]

/-- A struct of three strings in memory: the one fact about it. -/
def Box3 (w : World) (A : Nat) (T : TypeId) (x y z : Value) : Prop := w.heap[A]? = some (.cells #[x, y, z] T (0, 0))
theorem Box3.set0 {w : World} {A : Nat} {T : TypeId} {x y z : Value} (h : Box3 w A T x y z) (v : Value) : Box3 (w.setCell ⟨A, 0, none⟩ v) A T v y z := by
  unfold Box3 World.setCell at *
  simp [Array.getElem?_modify, h]
theorem Box3.set1 {w : World} {A : Nat} {T : TypeId} {x y z : Value} (h : Box3 w A T x y z) (v : Value) : Box3 (w.setCell ⟨A, 1, none⟩ v) A T x v z := by
  unfold Box3 World.setCell at *
  simp [Array.getElem?_modify, h]
theorem Box3.set2 {w : World} {A : Nat} {T : TypeId} {x y z : Value} (h : Box3 w A T x y z) (v : Value) : Box3 (w.setCell ⟨A, 2, none⟩ v) A T x y v := by
  unfold Box3 World.setCell at *
  simp [Array.getElem?_modify, h]
theorem Box3.drewN {w : World} {A : Nat} {T : TypeId} {x y z : Value} (h : Box3 w A T x y z) (n : Nat) : Box3 (w.drewN n) A T x y z := h
theorem Box3.below {w w' : World} {A : Nat} {T : TypeId} {x y z : Value} (h : Box3 w A T x y z) (b : Below w.heap.size w w') : Box3 w' A T x y z := by
  have hlt : A < w.heap.size := by
    unfold Box3 at h
    rw [Array.getElem?_eq_some_iff] at h
    exact h.1
  exact (b.block A hlt).trans h
theorem Box3.c0 {w : World} {A : Nat} {T : TypeId} {x y z : Value} (h : Box3 w A T x y z) : w.cell? ⟨A, 0, none⟩ = some x := by unfold World.cell?; rw [h]; rfl
theorem Box3.c1 {w : World} {A : Nat} {T : TypeId} {x y z : Value} (h : Box3 w A T x y z) : w.cell? ⟨A, 1, none⟩ = some y := by unfold World.cell?; rw [h]; rfl
theorem Box3.c2 {w : World} {A : Nat} {T : TypeId} {x y z : Value} (h : Box3 w A T x y z) : w.cell? ⟨A, 2, none⟩ = some z := by unfold World.cell?; rw [h]; rfl
theorem Box3.f {w : World} {A : Nat} {T : TypeId} {x y z : Value} (h : Box3 w A T x y z) (j : Nat) : w.frozen? ⟨A, j, none⟩ = false := by unfold World.frozen?; rw [h]; simp

set_option maxHeartbeats 4000000 in
theorem parse_bad1 (s front res _lo _dom : ByteArray) (w : World)
    (C1 : Hid (∀ W, Calls Tryz.prog 53 #[.string s, .string ⟨#[47]⟩] W fun e w' => e = .returned (.tuple #[.string front, .string res, .bool true]) ∧ ∃ n, w' = W.drewN n))
    (C2 : Hid (∀ W, Calls Tryz.prog 63 #[.string res] W fun e w' => e = .returned (.bool false) ∧ w' = W)) :
    Calls Tryz.prog 47 #[.string s] w fun e w' => e = .returned (ParseTold (none)) ∧ Below w.heap.size w w' := by
  go_enter Tryz.func47, Tryz.ntmps47
  go_wp2_with fail
  have HX : Hid (Box3 (w.alloc (.cells #[.string ⟨#[]⟩, .string ⟨#[]⟩, .string ⟨#[]⟩] 97)) w.heap.size 97 (.string ⟨#[]⟩) (.string ⟨#[]⟩) (.string ⟨#[]⟩)) := (MapKept.heap_alloc w _).1
  have HB : Hid (Below w.heap.size w (w.alloc (.cells #[.string ⟨#[]⟩, .string ⟨#[]⟩, .string ⟨#[]⟩] 97))) := balloc w _
  generalize w.alloc (.cells #[.string ⟨#[]⟩, .string ⟨#[]⟩, .string ⟨#[]⟩] 97) = W at HX HB
  generalize hA : w.heap.size = A at HX HB
  refine wp_scope_jumps 0 (fun a' w' => ∃ u4 u5 u6 u7 u8 u9 u10 u11 u12 u13 u14 u15 u16 u17 u18 u19 u20 u21 u22 u23 u24 u25 u26 u27 u28 u29 u30 u31 u32 u33 u34 u35 u36 u37 u38 u39 u40 u41 u42 u43 u44 : Value, a' = ⟨#[.string s, undef, .pointer (some ⟨A, 0, none⟩), .int .i64 0, u4, u5, u6, u7, u8, u9, u10, u11, u12, u13, u14, u15, u16, u17, u18, u19, u20, u21, u22, u23, u24, u25, u26, u27, u28, u29, u30, u31, u32, u33, u34, u35, u36, u37, u38, u39, u40, u41, u42, u43, u44], []⟩ ∧ ∃ x y z, Box3 w' A 97 x y z ∧ Below A w w') (fun _ _ => 0) rfl ?first ?pass
  case pass =>
    rintro a' wj ⟨u4, u5, u6, u7, u8, u9, u10, u11, u12, u13, u14, u15, u16, u17, u18, u19, u20, u21, u22, u23, u24, u25, u26, u27, u28, u29, u30, u31, u32, u33, u34, u35, u36, u37, u38, u39, u40, u41, u42, u43, u44, rfl, x, y, z, hx, hb⟩
    have x0 := hx.c0
    have x1 := hx.c1
    have x2 := hx.c2
    have xf := hx.f
    go_wp2_with fail
    clear x0 x1 x2 xf
    have HX4 := ((hx.set0 (.string ⟨#[]⟩)).set1 (.string ⟨#[]⟩)).set2 (.string ⟨#[]⟩)
    have HB4 := ((hb.setCell (p := ⟨A, 0, none⟩) (Nat.le_refl _) (.string ⟨#[]⟩)).setCell (p := ⟨A, 1, none⟩) (Nat.le_refl _) (.string ⟨#[]⟩)).setCell (p := ⟨A, 2, none⟩) (Nat.le_refl _) (.string ⟨#[]⟩)
    generalize (((wj.setCell ⟨A, 0, none⟩ (.string ⟨#[]⟩)).setCell ⟨A, 1, none⟩ (.string ⟨#[]⟩)).setCell ⟨A, 2, none⟩ (.string ⟨#[]⟩)) = W4 at HX4 HB4
    have x0 := HX4.c0
    have x1 := HX4.c1
    have x2 := HX4.c2
    simp only [Exit.jump]
    refine bodyPost_ret (v := ParseTold none) ?_ rfl ?_
    · simp [results, Tryz.results47, go_sem, x0, x1, x2, ParseTold]
    · exact ⟨rfl, by first | exact HB4 | (rw [hA]; exact HB4)⟩
  case first =>
    go_wp2_with fail
    refine (C1.out _).mono ?_
    rintro e w1 ⟨rfl, n1, rfl⟩
    have x0 := HX.out.c0
    have x1 := HX.out.c1
    have x2 := HX.out.c2
    have xf := HX.out.f
    go_wp2_with fail
    refine (C2.out _).mono ?_
    rintro e w1 ⟨rfl, hw⟩
    obtain rfl := hw.symm
    go_wp2_with fail
    clear x0 x1 x2 xf
    go_step3
    simp only [Exit.then]
    first | exact ⟨rfl, ⟨_, _, _, _, _, _, _, _, _, _, _, _, _, _, _, _, _, _, _, _, _, _, _, _, _, _, _, _, _, _, _, _, _, _, _, _, _, _, _, _, _, rfl, _, _, _, (HX.out.drewN n1).set2 _, by first | exact (bdrewN HB.out n1).setCell (Nat.le_refl _) _ | (rw [hA]; exact (bdrewN HB.out n1).setCell (Nat.le_refl _) _)⟩⟩ | exact ⟨trivial, ⟨_, _, _, _, _, _, _, _, _, _, _, _, _, _, _, _, _, _, _, _, _, _, _, _, _, _, _, _, _, _, _, _, _, _, _, _, _, _, _, _, _, rfl, _, _, _, (HX.out.drewN n1).set2 _, by first | exact (bdrewN HB.out n1).setCell (Nat.le_refl _) _ | (rw [hA]; exact (bdrewN HB.out n1).setCell (Nat.le_refl _) _)⟩⟩ | exact ⟨_, _, _, _, _, _, _, _, _, _, _, _, _, _, _, _, _, _, _, _, _, _, _, _, _, _, _, _, _, _, _, _, _, _, _, _, _, _, _, _, _, rfl, _, _, _, (HX.out.drewN n1).set2 _, by first | exact (bdrewN HB.out n1).setCell (Nat.le_refl _) _ | (rw [hA]; exact (bdrewN HB.out n1).setCell (Nat.le_refl _) _)⟩

set_option maxHeartbeats 4000000 in
theorem parse_bad2t (s front res lo dom : ByteArray) (w : World)
    (C1 : Hid (∀ W, Calls Tryz.prog 53 #[.string s, .string ⟨#[47]⟩] W fun e w' => e = .returned (.tuple #[.string front, .string res, .bool true]) ∧ ∃ n, w' = W.drewN n))
    (C2 : Hid (∀ W, Calls Tryz.prog 63 #[.string res] W fun e w' => e = .returned (.bool true) ∧ w' = W))
    (C3 : Hid (∀ W, Calls Tryz.prog 53 #[.string front, .string ⟨#[64]⟩] W fun e w' => e = .returned (.tuple #[.string lo, .string dom, .bool true]) ∧ ∃ n, w' = W.drewN n))
    (C4 : Hid (∀ W, Calls Tryz.prog 63 #[.string lo] W fun e w' => e = .returned (.bool false) ∧ w' = W)) :
    Calls Tryz.prog 47 #[.string s] w fun e w' => e = .returned (ParseTold (none)) ∧ Below w.heap.size w w' := by
  go_enter Tryz.func47, Tryz.ntmps47
  go_wp2_with fail
  have HX : Hid (Box3 (w.alloc (.cells #[.string ⟨#[]⟩, .string ⟨#[]⟩, .string ⟨#[]⟩] 97)) w.heap.size 97 (.string ⟨#[]⟩) (.string ⟨#[]⟩) (.string ⟨#[]⟩)) := (MapKept.heap_alloc w _).1
  have HB : Hid (Below w.heap.size w (w.alloc (.cells #[.string ⟨#[]⟩, .string ⟨#[]⟩, .string ⟨#[]⟩] 97))) := balloc w _
  generalize w.alloc (.cells #[.string ⟨#[]⟩, .string ⟨#[]⟩, .string ⟨#[]⟩] 97) = W at HX HB
  generalize hA : w.heap.size = A at HX HB
  refine wp_scope_jumps 0 (fun a' w' => ∃ u4 u5 u6 u7 u8 u9 u10 u11 u12 u13 u14 u15 u16 u17 u18 u19 u20 u21 u22 u23 u24 u25 u26 u27 u28 u29 u30 u31 u32 u33 u34 u35 u36 u37 u38 u39 u40 u41 u42 u43 u44 : Value, a' = ⟨#[.string s, undef, .pointer (some ⟨A, 0, none⟩), .int .i64 0, u4, u5, u6, u7, u8, u9, u10, u11, u12, u13, u14, u15, u16, u17, u18, u19, u20, u21, u22, u23, u24, u25, u26, u27, u28, u29, u30, u31, u32, u33, u34, u35, u36, u37, u38, u39, u40, u41, u42, u43, u44], []⟩ ∧ ∃ x y z, Box3 w' A 97 x y z ∧ Below A w w') (fun _ _ => 0) rfl ?first ?pass
  case pass =>
    rintro a' wj ⟨u4, u5, u6, u7, u8, u9, u10, u11, u12, u13, u14, u15, u16, u17, u18, u19, u20, u21, u22, u23, u24, u25, u26, u27, u28, u29, u30, u31, u32, u33, u34, u35, u36, u37, u38, u39, u40, u41, u42, u43, u44, rfl, x, y, z, hx, hb⟩
    have x0 := hx.c0
    have x1 := hx.c1
    have x2 := hx.c2
    have xf := hx.f
    go_wp2_with fail
    clear x0 x1 x2 xf
    have HX4 := ((hx.set0 (.string ⟨#[]⟩)).set1 (.string ⟨#[]⟩)).set2 (.string ⟨#[]⟩)
    have HB4 := ((hb.setCell (p := ⟨A, 0, none⟩) (Nat.le_refl _) (.string ⟨#[]⟩)).setCell (p := ⟨A, 1, none⟩) (Nat.le_refl _) (.string ⟨#[]⟩)).setCell (p := ⟨A, 2, none⟩) (Nat.le_refl _) (.string ⟨#[]⟩)
    generalize (((wj.setCell ⟨A, 0, none⟩ (.string ⟨#[]⟩)).setCell ⟨A, 1, none⟩ (.string ⟨#[]⟩)).setCell ⟨A, 2, none⟩ (.string ⟨#[]⟩)) = W4 at HX4 HB4
    have x0 := HX4.c0
    have x1 := HX4.c1
    have x2 := HX4.c2
    simp only [Exit.jump]
    refine bodyPost_ret (v := ParseTold none) ?_ rfl ?_
    · simp [results, Tryz.results47, go_sem, x0, x1, x2, ParseTold]
    · exact ⟨rfl, by first | exact HB4 | (rw [hA]; exact HB4)⟩
  case first =>
    go_wp2_with fail
    refine (C1.out _).mono ?_
    rintro e w1 ⟨rfl, n1, rfl⟩
    have x0 := HX.out.c0
    have x1 := HX.out.c1
    have x2 := HX.out.c2
    have xf := HX.out.f
    go_wp2_with fail
    refine (C2.out _).mono ?_
    rintro e w1 ⟨rfl, hw⟩
    obtain rfl := hw.symm
    go_wp2_with fail
    clear x0 x1 x2 xf
    refine (C3.out _).mono ?_
    rintro e w1 ⟨rfl, n2, rfl⟩
    have HX2 : Hid (Box3 (((((W.drewN n1).setCell ⟨A, 2, none⟩ (.string res)).setCell ⟨A, 1, none⟩ (.string front))).drewN n2) A 97 (.string ⟨#[]⟩) (.string front) (.string res)) := ((HX.out.drewN n1).set2 _ |>.set1 _).drewN n2
    have HB2 : Hid (Below A w (((((W.drewN n1).setCell ⟨A, 2, none⟩ (.string res)).setCell ⟨A, 1, none⟩ (.string front))).drewN n2)) := bdrewN (((bdrewN HB.out n1).setCell (Nat.le_refl _) _).setCell (Nat.le_refl _) _) n2
    generalize ((((W.drewN n1).setCell ⟨A, 2, none⟩ (.string res)).setCell ⟨A, 1, none⟩ (.string front))).drewN n2 = W2 at HX2 HB2
    have x0 := HX2.out.c0
    have x1 := HX2.out.c1
    have x2 := HX2.out.c2
    have xf := HX2.out.f
    go_wp2_with fail
    refine (C4.out _).mono ?_
    rintro e w1 ⟨rfl, hw⟩
    obtain rfl := hw.symm
    go_wp2_with fail
    clear x0 x1 x2 xf
    go_step3
    simp only [Exit.then]
    first | exact ⟨rfl, ⟨_, _, _, _, _, _, _, _, _, _, _, _, _, _, _, _, _, _, _, _, _, _, _, _, _, _, _, _, _, _, _, _, _, _, _, _, _, _, _, _, _, rfl, _, _, _, HX2.out, HB2.out⟩⟩ | exact ⟨trivial, ⟨_, _, _, _, _, _, _, _, _, _, _, _, _, _, _, _, _, _, _, _, _, _, _, _, _, _, _, _, _, _, _, _, _, _, _, _, _, _, _, _, _, rfl, _, _, _, HX2.out, HB2.out⟩⟩ | exact ⟨_, _, _, _, _, _, _, _, _, _, _, _, _, _, _, _, _, _, _, _, _, _, _, _, _, _, _, _, _, _, _, _, _, _, _, _, _, _, _, _, _, rfl, _, _, _, HX2.out, HB2.out⟩

set_option maxHeartbeats 4000000 in
theorem parse_bad3t (s front res lo dom : ByteArray) (w : World)
    (C1 : Hid (∀ W, Calls Tryz.prog 53 #[.string s, .string ⟨#[47]⟩] W fun e w' => e = .returned (.tuple #[.string front, .string res, .bool true]) ∧ ∃ n, w' = W.drewN n))
    (C2 : Hid (∀ W, Calls Tryz.prog 63 #[.string res] W fun e w' => e = .returned (.bool true) ∧ w' = W))
    (C3 : Hid (∀ W, Calls Tryz.prog 53 #[.string front, .string ⟨#[64]⟩] W fun e w' => e = .returned (.tuple #[.string lo, .string dom, .bool true]) ∧ ∃ n, w' = W.drewN n))
    (C4 : Hid (∀ W, Calls Tryz.prog 63 #[.string lo] W fun e w' => e = .returned (.bool true) ∧ w' = W))
    (C5 : Hid (∀ W, Calls Tryz.prog 64 #[.agg #[.string lo, .string dom, .string res]] W fun e w' => e = .returned (.bool false) ∧ Below W.heap.size W w')) :
    Calls Tryz.prog 47 #[.string s] w fun e w' => e = .returned (ParseTold (none)) ∧ Below w.heap.size w w' := by
  go_enter Tryz.func47, Tryz.ntmps47
  go_wp2_with fail
  have HX : Hid (Box3 (w.alloc (.cells #[.string ⟨#[]⟩, .string ⟨#[]⟩, .string ⟨#[]⟩] 97)) w.heap.size 97 (.string ⟨#[]⟩) (.string ⟨#[]⟩) (.string ⟨#[]⟩)) := (MapKept.heap_alloc w _).1
  have HB : Hid (Below w.heap.size w (w.alloc (.cells #[.string ⟨#[]⟩, .string ⟨#[]⟩, .string ⟨#[]⟩] 97))) := balloc w _
  generalize w.alloc (.cells #[.string ⟨#[]⟩, .string ⟨#[]⟩, .string ⟨#[]⟩] 97) = W at HX HB
  generalize hA : w.heap.size = A at HX HB
  refine wp_scope_jumps 0 (fun a' w' => ∃ u4 u5 u6 u7 u8 u9 u10 u11 u12 u13 u14 u15 u16 u17 u18 u19 u20 u21 u22 u23 u24 u25 u26 u27 u28 u29 u30 u31 u32 u33 u34 u35 u36 u37 u38 u39 u40 u41 u42 u43 u44 : Value, a' = ⟨#[.string s, undef, .pointer (some ⟨A, 0, none⟩), .int .i64 0, u4, u5, u6, u7, u8, u9, u10, u11, u12, u13, u14, u15, u16, u17, u18, u19, u20, u21, u22, u23, u24, u25, u26, u27, u28, u29, u30, u31, u32, u33, u34, u35, u36, u37, u38, u39, u40, u41, u42, u43, u44], []⟩ ∧ ∃ x y z, Box3 w' A 97 x y z ∧ Below A w w') (fun _ _ => 0) rfl ?first ?pass
  case pass =>
    rintro a' wj ⟨u4, u5, u6, u7, u8, u9, u10, u11, u12, u13, u14, u15, u16, u17, u18, u19, u20, u21, u22, u23, u24, u25, u26, u27, u28, u29, u30, u31, u32, u33, u34, u35, u36, u37, u38, u39, u40, u41, u42, u43, u44, rfl, x, y, z, hx, hb⟩
    have x0 := hx.c0
    have x1 := hx.c1
    have x2 := hx.c2
    have xf := hx.f
    go_wp2_with fail
    clear x0 x1 x2 xf
    have HX4 := ((hx.set0 (.string ⟨#[]⟩)).set1 (.string ⟨#[]⟩)).set2 (.string ⟨#[]⟩)
    have HB4 := ((hb.setCell (p := ⟨A, 0, none⟩) (Nat.le_refl _) (.string ⟨#[]⟩)).setCell (p := ⟨A, 1, none⟩) (Nat.le_refl _) (.string ⟨#[]⟩)).setCell (p := ⟨A, 2, none⟩) (Nat.le_refl _) (.string ⟨#[]⟩)
    generalize (((wj.setCell ⟨A, 0, none⟩ (.string ⟨#[]⟩)).setCell ⟨A, 1, none⟩ (.string ⟨#[]⟩)).setCell ⟨A, 2, none⟩ (.string ⟨#[]⟩)) = W4 at HX4 HB4
    have x0 := HX4.c0
    have x1 := HX4.c1
    have x2 := HX4.c2
    simp only [Exit.jump]
    refine bodyPost_ret (v := ParseTold none) ?_ rfl ?_
    · simp [results, Tryz.results47, go_sem, x0, x1, x2, ParseTold]
    · exact ⟨rfl, by first | exact HB4 | (rw [hA]; exact HB4)⟩
  case first =>
    go_wp2_with fail
    refine (C1.out _).mono ?_
    rintro e w1 ⟨rfl, n1, rfl⟩
    have x0 := HX.out.c0
    have x1 := HX.out.c1
    have x2 := HX.out.c2
    have xf := HX.out.f
    go_wp2_with fail
    refine (C2.out _).mono ?_
    rintro e w1 ⟨rfl, hw⟩
    obtain rfl := hw.symm
    go_wp2_with fail
    clear x0 x1 x2 xf
    refine (C3.out _).mono ?_
    rintro e w1 ⟨rfl, n2, rfl⟩
    have HX2 : Hid (Box3 (((((W.drewN n1).setCell ⟨A, 2, none⟩ (.string res)).setCell ⟨A, 1, none⟩ (.string front))).drewN n2) A 97 (.string ⟨#[]⟩) (.string front) (.string res)) := ((HX.out.drewN n1).set2 _ |>.set1 _).drewN n2
    have HB2 : Hid (Below A w (((((W.drewN n1).setCell ⟨A, 2, none⟩ (.string res)).setCell ⟨A, 1, none⟩ (.string front))).drewN n2)) := bdrewN (((bdrewN HB.out n1).setCell (Nat.le_refl _) _).setCell (Nat.le_refl _) _) n2
    generalize ((((W.drewN n1).setCell ⟨A, 2, none⟩ (.string res)).setCell ⟨A, 1, none⟩ (.string front))).drewN n2 = W2 at HX2 HB2
    have x0 := HX2.out.c0
    have x1 := HX2.out.c1
    have x2 := HX2.out.c2
    have xf := HX2.out.f
    go_wp2_with fail
    refine (C4.out _).mono ?_
    rintro e w1 ⟨rfl, hw⟩
    obtain rfl := hw.symm
    go_wp2_with fail
    clear x0 x1 x2 xf
    refine (C5.out _).mono ?_
    rintro e w3 ⟨rfl, b3⟩
    have HX3 : Hid (Box3 w3 A 97 (.string lo) (.string dom) (.string res)) := ((HX2.out.set0 _).set1 _).below b3
    have HB3 : Hid (Below A w w3) := ((HB2.out.setCell (Nat.le_refl _) _).setCell (Nat.le_refl _) _).trans (b3.mono (by simp; rw [← hA]; exact HB2.out.size))
    clear b3
    have x0 := HX3.out.c0
    have x1 := HX3.out.c1
    have x2 := HX3.out.c2
    have xf := HX3.out.f
    go_wp2_with fail
    clear x0 x1 x2 xf
    go_step3
    simp only [Exit.then]
    first | exact ⟨rfl, ⟨_, _, _, _, _, _, _, _, _, _, _, _, _, _, _, _, _, _, _, _, _, _, _, _, _, _, _, _, _, _, _, _, _, _, _, _, _, _, _, _, _, rfl, _, _, _, HX3.out, HB3.out⟩⟩ | exact ⟨trivial, ⟨_, _, _, _, _, _, _, _, _, _, _, _, _, _, _, _, _, _, _, _, _, _, _, _, _, _, _, _, _, _, _, _, _, _, _, _, _, _, _, _, _, rfl, _, _, _, HX3.out, HB3.out⟩⟩ | exact ⟨_, _, _, _, _, _, _, _, _, _, _, _, _, _, _, _, _, _, _, _, _, _, _, _, _, _, _, _, _, _, _, _, _, _, _, _, _, _, _, _, _, rfl, _, _, _, HX3.out, HB3.out⟩

set_option maxHeartbeats 4000000 in
theorem parse_ok1t (s front res lo dom : ByteArray) (w : World)
    (C1 : Hid (∀ W, Calls Tryz.prog 53 #[.string s, .string ⟨#[47]⟩] W fun e w' => e = .returned (.tuple #[.string front, .string res, .bool true]) ∧ ∃ n, w' = W.drewN n))
    (C2 : Hid (∀ W, Calls Tryz.prog 63 #[.string res] W fun e w' => e = .returned (.bool true) ∧ w' = W))
    (C3 : Hid (∀ W, Calls Tryz.prog 53 #[.string front, .string ⟨#[64]⟩] W fun e w' => e = .returned (.tuple #[.string lo, .string dom, .bool true]) ∧ ∃ n, w' = W.drewN n))
    (C4 : Hid (∀ W, Calls Tryz.prog 63 #[.string lo] W fun e w' => e = .returned (.bool true) ∧ w' = W))
    (C5 : Hid (∀ W, Calls Tryz.prog 64 #[.agg #[.string lo, .string dom, .string res]] W fun e w' => e = .returned (.bool true) ∧ Below W.heap.size W w')) :
    Calls Tryz.prog 47 #[.string s] w fun e w' => e = .returned (ParseTold (some (lo, dom, res))) ∧ Below w.heap.size w w' := by
  go_enter Tryz.func47, Tryz.ntmps47
  go_wp2_with fail
  have HX : Hid (Box3 (w.alloc (.cells #[.string ⟨#[]⟩, .string ⟨#[]⟩, .string ⟨#[]⟩] 97)) w.heap.size 97 (.string ⟨#[]⟩) (.string ⟨#[]⟩) (.string ⟨#[]⟩)) := (MapKept.heap_alloc w _).1
  have HB : Hid (Below w.heap.size w (w.alloc (.cells #[.string ⟨#[]⟩, .string ⟨#[]⟩, .string ⟨#[]⟩] 97))) := balloc w _
  generalize w.alloc (.cells #[.string ⟨#[]⟩, .string ⟨#[]⟩, .string ⟨#[]⟩] 97) = W at HX HB
  generalize hA : w.heap.size = A at HX HB
  go_step3
  go_wp2_with fail
  refine (C1.out _).mono ?_
  rintro e w1 ⟨rfl, n1, rfl⟩
  have x0 := HX.out.c0
  have x1 := HX.out.c1
  have x2 := HX.out.c2
  have xf := HX.out.f
  go_wp2_with fail
  refine (C2.out _).mono ?_
  rintro e w1 ⟨rfl, hw⟩
  obtain rfl := hw.symm
  go_wp2_with fail
  clear x0 x1 x2 xf
  refine (C3.out _).mono ?_
  rintro e w1 ⟨rfl, n2, rfl⟩
  have HX2 : Hid (Box3 (((((W.drewN n1).setCell ⟨A, 2, none⟩ (.string res)).setCell ⟨A, 1, none⟩ (.string front))).drewN n2) A 97 (.string ⟨#[]⟩) (.string front) (.string res)) := ((HX.out.drewN n1).set2 _ |>.set1 _).drewN n2
  have HB2 : Hid (Below A w (((((W.drewN n1).setCell ⟨A, 2, none⟩ (.string res)).setCell ⟨A, 1, none⟩ (.string front))).drewN n2)) := bdrewN (((bdrewN HB.out n1).setCell (Nat.le_refl _) _).setCell (Nat.le_refl _) _) n2
  generalize ((((W.drewN n1).setCell ⟨A, 2, none⟩ (.string res)).setCell ⟨A, 1, none⟩ (.string front))).drewN n2 = W2 at HX2 HB2
  have x0 := HX2.out.c0
  have x1 := HX2.out.c1
  have x2 := HX2.out.c2
  have xf := HX2.out.f
  go_wp2_with fail
  refine (C4.out _).mono ?_
  rintro e w1 ⟨rfl, hw⟩
  obtain rfl := hw.symm
  go_wp2_with fail
  clear x0 x1 x2 xf
  refine (C5.out _).mono ?_
  rintro e w3 ⟨rfl, b3⟩
  have HX3 : Hid (Box3 w3 A 97 (.string lo) (.string dom) (.string res)) := ((HX2.out.set0 _).set1 _).below b3
  have HB3 : Hid (Below A w w3) := ((HB2.out.setCell (Nat.le_refl _) _).setCell (Nat.le_refl _) _).trans (b3.mono (by simp; rw [← hA]; exact HB2.out.size))
  clear b3
  have x0 := HX3.out.c0
  have x1 := HX3.out.c1
  have x2 := HX3.out.c2
  have xf := HX3.out.f
  go_wp2_with fail
  clear x0 x1 x2 xf
  have HX4 := ((HX3.out.set0 (.string lo)).set1 (.string dom)).set2 (.string res)
  have HB4 : Below A w (((w3.setCell ⟨A, 0, none⟩ (.string lo)).setCell ⟨A, 1, none⟩ (.string dom)).setCell ⟨A, 2, none⟩ (.string res)) := ((HB3.out.setCell (Nat.le_refl _) _).setCell (Nat.le_refl _) _).setCell (Nat.le_refl _) _
  generalize (((w3.setCell ⟨A, 0, none⟩ (.string lo)).setCell ⟨A, 1, none⟩ (.string dom)).setCell ⟨A, 2, none⟩ (.string res)) = W4 at HX4 HB4
  have x0 := HX4.c0
  have x1 := HX4.c1
  have x2 := HX4.c2
  rw [Exit.noGoto_ret]
  refine bodyPost_ret (v := ParseTold (some (lo, dom, res))) ?_ rfl ?_
  · simp [results, Tryz.results47, go_sem, x0, x1, x2, ParseTold]
  · exact ⟨rfl, by first | exact HB4 | (rw [hA]; exact HB4)⟩

set_option maxHeartbeats 4000000 in
theorem parse_bad4t (s front res lo dom : ByteArray) (w : World)
    (C1 : Hid (∀ W, Calls Tryz.prog 53 #[.string s, .string ⟨#[47]⟩] W fun e w' => e = .returned (.tuple #[.string front, .string res, .bool true]) ∧ ∃ n, w' = W.drewN n))
    (C2 : Hid (∀ W, Calls Tryz.prog 63 #[.string res] W fun e w' => e = .returned (.bool true) ∧ w' = W))
    (C3 : Hid (∀ W, Calls Tryz.prog 53 #[.string front, .string ⟨#[64]⟩] W fun e w' => e = .returned (.tuple #[.string lo, .string dom, .bool false]) ∧ ∃ n, w' = W.drewN n))
    (C5 : Hid (∀ W, Calls Tryz.prog 64 #[.agg #[.string ⟨#[]⟩, .string front, .string res]] W fun e w' => e = .returned (.bool false) ∧ Below W.heap.size W w')) :
    Calls Tryz.prog 47 #[.string s] w fun e w' => e = .returned (ParseTold (none)) ∧ Below w.heap.size w w' := by
  go_enter Tryz.func47, Tryz.ntmps47
  go_wp2_with fail
  have HX : Hid (Box3 (w.alloc (.cells #[.string ⟨#[]⟩, .string ⟨#[]⟩, .string ⟨#[]⟩] 97)) w.heap.size 97 (.string ⟨#[]⟩) (.string ⟨#[]⟩) (.string ⟨#[]⟩)) := (MapKept.heap_alloc w _).1
  have HB : Hid (Below w.heap.size w (w.alloc (.cells #[.string ⟨#[]⟩, .string ⟨#[]⟩, .string ⟨#[]⟩] 97))) := balloc w _
  generalize w.alloc (.cells #[.string ⟨#[]⟩, .string ⟨#[]⟩, .string ⟨#[]⟩] 97) = W at HX HB
  generalize hA : w.heap.size = A at HX HB
  refine wp_scope_jumps 0 (fun a' w' => ∃ u4 u5 u6 u7 u8 u9 u10 u11 u12 u13 u14 u15 u16 u17 u18 u19 u20 u21 u22 u23 u24 u25 u26 u27 u28 u29 u30 u31 u32 u33 u34 u35 u36 u37 u38 u39 u40 u41 u42 u43 u44 : Value, a' = ⟨#[.string s, undef, .pointer (some ⟨A, 0, none⟩), .int .i64 0, u4, u5, u6, u7, u8, u9, u10, u11, u12, u13, u14, u15, u16, u17, u18, u19, u20, u21, u22, u23, u24, u25, u26, u27, u28, u29, u30, u31, u32, u33, u34, u35, u36, u37, u38, u39, u40, u41, u42, u43, u44], []⟩ ∧ ∃ x y z, Box3 w' A 97 x y z ∧ Below A w w') (fun _ _ => 0) rfl ?first ?pass
  case pass =>
    rintro a' wj ⟨u4, u5, u6, u7, u8, u9, u10, u11, u12, u13, u14, u15, u16, u17, u18, u19, u20, u21, u22, u23, u24, u25, u26, u27, u28, u29, u30, u31, u32, u33, u34, u35, u36, u37, u38, u39, u40, u41, u42, u43, u44, rfl, x, y, z, hx, hb⟩
    have x0 := hx.c0
    have x1 := hx.c1
    have x2 := hx.c2
    have xf := hx.f
    go_wp2_with fail
    clear x0 x1 x2 xf
    have HX4 := ((hx.set0 (.string ⟨#[]⟩)).set1 (.string ⟨#[]⟩)).set2 (.string ⟨#[]⟩)
    have HB4 := ((hb.setCell (p := ⟨A, 0, none⟩) (Nat.le_refl _) (.string ⟨#[]⟩)).setCell (p := ⟨A, 1, none⟩) (Nat.le_refl _) (.string ⟨#[]⟩)).setCell (p := ⟨A, 2, none⟩) (Nat.le_refl _) (.string ⟨#[]⟩)
    generalize (((wj.setCell ⟨A, 0, none⟩ (.string ⟨#[]⟩)).setCell ⟨A, 1, none⟩ (.string ⟨#[]⟩)).setCell ⟨A, 2, none⟩ (.string ⟨#[]⟩)) = W4 at HX4 HB4
    have x0 := HX4.c0
    have x1 := HX4.c1
    have x2 := HX4.c2
    simp only [Exit.jump]
    refine bodyPost_ret (v := ParseTold none) ?_ rfl ?_
    · simp [results, Tryz.results47, go_sem, x0, x1, x2, ParseTold]
    · exact ⟨rfl, by first | exact HB4 | (rw [hA]; exact HB4)⟩
  case first =>
    go_wp2_with fail
    refine (C1.out _).mono ?_
    rintro e w1 ⟨rfl, n1, rfl⟩
    have x0 := HX.out.c0
    have x1 := HX.out.c1
    have x2 := HX.out.c2
    have xf := HX.out.f
    go_wp2_with fail
    refine (C2.out _).mono ?_
    rintro e w1 ⟨rfl, hw⟩
    obtain rfl := hw.symm
    go_wp2_with fail
    clear x0 x1 x2 xf
    refine (C3.out _).mono ?_
    rintro e w1 ⟨rfl, n2, rfl⟩
    have HX2 : Hid (Box3 (((((W.drewN n1).setCell ⟨A, 2, none⟩ (.string res)).setCell ⟨A, 1, none⟩ (.string front))).drewN n2) A 97 (.string ⟨#[]⟩) (.string front) (.string res)) := ((HX.out.drewN n1).set2 _ |>.set1 _).drewN n2
    have HB2 : Hid (Below A w (((((W.drewN n1).setCell ⟨A, 2, none⟩ (.string res)).setCell ⟨A, 1, none⟩ (.string front))).drewN n2)) := bdrewN (((bdrewN HB.out n1).setCell (Nat.le_refl _) _).setCell (Nat.le_refl _) _) n2
    generalize ((((W.drewN n1).setCell ⟨A, 2, none⟩ (.string res)).setCell ⟨A, 1, none⟩ (.string front))).drewN n2 = W2 at HX2 HB2
    have x0 := HX2.out.c0
    have x1 := HX2.out.c1
    have x2 := HX2.out.c2
    have xf := HX2.out.f
    go_wp2_with fail
    clear x0 x1 x2 xf
    refine (C5.out _).mono ?_
    rintro e w3 ⟨rfl, b3⟩
    have HX3 : Hid (Box3 w3 A 97 (.string ⟨#[]⟩) (.string front) (.string res)) := HX2.out.below b3
    have HB3 : Hid (Below A w w3) := HB2.out.trans (b3.mono (by rw [← hA]; exact HB2.out.size))
    clear b3
    have x0 := HX3.out.c0
    have x1 := HX3.out.c1
    have x2 := HX3.out.c2
    have xf := HX3.out.f
    go_wp2_with fail
    clear x0 x1 x2 xf
    go_step3
    simp only [Exit.then]
    first | exact ⟨rfl, ⟨_, _, _, _, _, _, _, _, _, _, _, _, _, _, _, _, _, _, _, _, _, _, _, _, _, _, _, _, _, _, _, _, _, _, _, _, _, _, _, _, _, rfl, _, _, _, HX3.out, HB3.out⟩⟩ | exact ⟨trivial, ⟨_, _, _, _, _, _, _, _, _, _, _, _, _, _, _, _, _, _, _, _, _, _, _, _, _, _, _, _, _, _, _, _, _, _, _, _, _, _, _, _, _, rfl, _, _, _, HX3.out, HB3.out⟩⟩ | exact ⟨_, _, _, _, _, _, _, _, _, _, _, _, _, _, _, _, _, _, _, _, _, _, _, _, _, _, _, _, _, _, _, _, _, _, _, _, _, _, _, _, _, rfl, _, _, _, HX3.out, HB3.out⟩

set_option maxHeartbeats 4000000 in
theorem parse_ok2t (s front res lo dom : ByteArray) (w : World)
    (C1 : Hid (∀ W, Calls Tryz.prog 53 #[.string s, .string ⟨#[47]⟩] W fun e w' => e = .returned (.tuple #[.string front, .string res, .bool true]) ∧ ∃ n, w' = W.drewN n))
    (C2 : Hid (∀ W, Calls Tryz.prog 63 #[.string res] W fun e w' => e = .returned (.bool true) ∧ w' = W))
    (C3 : Hid (∀ W, Calls Tryz.prog 53 #[.string front, .string ⟨#[64]⟩] W fun e w' => e = .returned (.tuple #[.string lo, .string dom, .bool false]) ∧ ∃ n, w' = W.drewN n))
    (C5 : Hid (∀ W, Calls Tryz.prog 64 #[.agg #[.string ⟨#[]⟩, .string front, .string res]] W fun e w' => e = .returned (.bool true) ∧ Below W.heap.size W w')) :
    Calls Tryz.prog 47 #[.string s] w fun e w' => e = .returned (ParseTold (some (⟨#[]⟩, front, res))) ∧ Below w.heap.size w w' := by
  go_enter Tryz.func47, Tryz.ntmps47
  go_wp2_with fail
  have HX : Hid (Box3 (w.alloc (.cells #[.string ⟨#[]⟩, .string ⟨#[]⟩, .string ⟨#[]⟩] 97)) w.heap.size 97 (.string ⟨#[]⟩) (.string ⟨#[]⟩) (.string ⟨#[]⟩)) := (MapKept.heap_alloc w _).1
  have HB : Hid (Below w.heap.size w (w.alloc (.cells #[.string ⟨#[]⟩, .string ⟨#[]⟩, .string ⟨#[]⟩] 97))) := balloc w _
  generalize w.alloc (.cells #[.string ⟨#[]⟩, .string ⟨#[]⟩, .string ⟨#[]⟩] 97) = W at HX HB
  generalize hA : w.heap.size = A at HX HB
  go_step3
  go_wp2_with fail
  refine (C1.out _).mono ?_
  rintro e w1 ⟨rfl, n1, rfl⟩
  have x0 := HX.out.c0
  have x1 := HX.out.c1
  have x2 := HX.out.c2
  have xf := HX.out.f
  go_wp2_with fail
  refine (C2.out _).mono ?_
  rintro e w1 ⟨rfl, hw⟩
  obtain rfl := hw.symm
  go_wp2_with fail
  clear x0 x1 x2 xf
  refine (C3.out _).mono ?_
  rintro e w1 ⟨rfl, n2, rfl⟩
  have HX2 : Hid (Box3 (((((W.drewN n1).setCell ⟨A, 2, none⟩ (.string res)).setCell ⟨A, 1, none⟩ (.string front))).drewN n2) A 97 (.string ⟨#[]⟩) (.string front) (.string res)) := ((HX.out.drewN n1).set2 _ |>.set1 _).drewN n2
  have HB2 : Hid (Below A w (((((W.drewN n1).setCell ⟨A, 2, none⟩ (.string res)).setCell ⟨A, 1, none⟩ (.string front))).drewN n2)) := bdrewN (((bdrewN HB.out n1).setCell (Nat.le_refl _) _).setCell (Nat.le_refl _) _) n2
  generalize ((((W.drewN n1).setCell ⟨A, 2, none⟩ (.string res)).setCell ⟨A, 1, none⟩ (.string front))).drewN n2 = W2 at HX2 HB2
  have x0 := HX2.out.c0
  have x1 := HX2.out.c1
  have x2 := HX2.out.c2
  have xf := HX2.out.f
  go_wp2_with fail
  clear x0 x1 x2 xf
  refine (C5.out _).mono ?_
  rintro e w3 ⟨rfl, b3⟩
  have HX3 : Hid (Box3 w3 A 97 (.string ⟨#[]⟩) (.string front) (.string res)) := HX2.out.below b3
  have HB3 : Hid (Below A w w3) := HB2.out.trans (b3.mono (by rw [← hA]; exact HB2.out.size))
  clear b3
  have x0 := HX3.out.c0
  have x1 := HX3.out.c1
  have x2 := HX3.out.c2
  have xf := HX3.out.f
  go_wp2_with fail
  clear x0 x1 x2 xf
  have HX4 := ((HX3.out.set0 (.string ⟨#[]⟩)).set1 (.string front)).set2 (.string res)
  have HB4 : Below A w (((w3.setCell ⟨A, 0, none⟩ (.string ⟨#[]⟩)).setCell ⟨A, 1, none⟩ (.string front)).setCell ⟨A, 2, none⟩ (.string res)) := ((HB3.out.setCell (Nat.le_refl _) _).setCell (Nat.le_refl _) _).setCell (Nat.le_refl _) _
  generalize (((w3.setCell ⟨A, 0, none⟩ (.string ⟨#[]⟩)).setCell ⟨A, 1, none⟩ (.string front)).setCell ⟨A, 2, none⟩ (.string res)) = W4 at HX4 HB4
  have x0 := HX4.c0
  have x1 := HX4.c1
  have x2 := HX4.c2
  rw [Exit.noGoto_ret]
  refine bodyPost_ret (v := ParseTold (some (⟨#[]⟩, front, res))) ?_ rfl ?_
  · simp [results, Tryz.results47, go_sem, x0, x1, x2, ParseTold]
  · exact ⟨rfl, by first | exact HB4 | (rw [hA]; exact HB4)⟩

set_option maxHeartbeats 4000000 in
theorem parse_bad2f (s front res lo dom : ByteArray) (w : World)
    (C1 : Hid (∀ W, Calls Tryz.prog 53 #[.string s, .string ⟨#[47]⟩] W fun e w' => e = .returned (.tuple #[.string front, .string res, .bool false]) ∧ ∃ n, w' = W.drewN n))
    (C3 : Hid (∀ W, Calls Tryz.prog 53 #[.string front, .string ⟨#[64]⟩] W fun e w' => e = .returned (.tuple #[.string lo, .string dom, .bool true]) ∧ ∃ n, w' = W.drewN n))
    (C4 : Hid (∀ W, Calls Tryz.prog 63 #[.string lo] W fun e w' => e = .returned (.bool false) ∧ w' = W)) :
    Calls Tryz.prog 47 #[.string s] w fun e w' => e = .returned (ParseTold (none)) ∧ Below w.heap.size w w' := by
  go_enter Tryz.func47, Tryz.ntmps47
  go_wp2_with fail
  have HX : Hid (Box3 (w.alloc (.cells #[.string ⟨#[]⟩, .string ⟨#[]⟩, .string ⟨#[]⟩] 97)) w.heap.size 97 (.string ⟨#[]⟩) (.string ⟨#[]⟩) (.string ⟨#[]⟩)) := (MapKept.heap_alloc w _).1
  have HB : Hid (Below w.heap.size w (w.alloc (.cells #[.string ⟨#[]⟩, .string ⟨#[]⟩, .string ⟨#[]⟩] 97))) := balloc w _
  generalize w.alloc (.cells #[.string ⟨#[]⟩, .string ⟨#[]⟩, .string ⟨#[]⟩] 97) = W at HX HB
  generalize hA : w.heap.size = A at HX HB
  refine wp_scope_jumps 0 (fun a' w' => ∃ u4 u5 u6 u7 u8 u9 u10 u11 u12 u13 u14 u15 u16 u17 u18 u19 u20 u21 u22 u23 u24 u25 u26 u27 u28 u29 u30 u31 u32 u33 u34 u35 u36 u37 u38 u39 u40 u41 u42 u43 u44 : Value, a' = ⟨#[.string s, undef, .pointer (some ⟨A, 0, none⟩), .int .i64 0, u4, u5, u6, u7, u8, u9, u10, u11, u12, u13, u14, u15, u16, u17, u18, u19, u20, u21, u22, u23, u24, u25, u26, u27, u28, u29, u30, u31, u32, u33, u34, u35, u36, u37, u38, u39, u40, u41, u42, u43, u44], []⟩ ∧ ∃ x y z, Box3 w' A 97 x y z ∧ Below A w w') (fun _ _ => 0) rfl ?first ?pass
  case pass =>
    rintro a' wj ⟨u4, u5, u6, u7, u8, u9, u10, u11, u12, u13, u14, u15, u16, u17, u18, u19, u20, u21, u22, u23, u24, u25, u26, u27, u28, u29, u30, u31, u32, u33, u34, u35, u36, u37, u38, u39, u40, u41, u42, u43, u44, rfl, x, y, z, hx, hb⟩
    have x0 := hx.c0
    have x1 := hx.c1
    have x2 := hx.c2
    have xf := hx.f
    go_wp2_with fail
    clear x0 x1 x2 xf
    have HX4 := ((hx.set0 (.string ⟨#[]⟩)).set1 (.string ⟨#[]⟩)).set2 (.string ⟨#[]⟩)
    have HB4 := ((hb.setCell (p := ⟨A, 0, none⟩) (Nat.le_refl _) (.string ⟨#[]⟩)).setCell (p := ⟨A, 1, none⟩) (Nat.le_refl _) (.string ⟨#[]⟩)).setCell (p := ⟨A, 2, none⟩) (Nat.le_refl _) (.string ⟨#[]⟩)
    generalize (((wj.setCell ⟨A, 0, none⟩ (.string ⟨#[]⟩)).setCell ⟨A, 1, none⟩ (.string ⟨#[]⟩)).setCell ⟨A, 2, none⟩ (.string ⟨#[]⟩)) = W4 at HX4 HB4
    have x0 := HX4.c0
    have x1 := HX4.c1
    have x2 := HX4.c2
    simp only [Exit.jump]
    refine bodyPost_ret (v := ParseTold none) ?_ rfl ?_
    · simp [results, Tryz.results47, go_sem, x0, x1, x2, ParseTold]
    · exact ⟨rfl, by first | exact HB4 | (rw [hA]; exact HB4)⟩
  case first =>
    go_wp2_with fail
    refine (C1.out _).mono ?_
    rintro e w1 ⟨rfl, n1, rfl⟩
    have x0 := HX.out.c0
    have x1 := HX.out.c1
    have x2 := HX.out.c2
    have xf := HX.out.f
    go_wp2_with fail
    clear x0 x1 x2 xf
    refine (C3.out _).mono ?_
    rintro e w1 ⟨rfl, n2, rfl⟩
    have HX2 : Hid (Box3 (((((W.drewN n1).setCell ⟨A, 2, none⟩ (.string res)).setCell ⟨A, 1, none⟩ (.string front))).drewN n2) A 97 (.string ⟨#[]⟩) (.string front) (.string res)) := ((HX.out.drewN n1).set2 _ |>.set1 _).drewN n2
    have HB2 : Hid (Below A w (((((W.drewN n1).setCell ⟨A, 2, none⟩ (.string res)).setCell ⟨A, 1, none⟩ (.string front))).drewN n2)) := bdrewN (((bdrewN HB.out n1).setCell (Nat.le_refl _) _).setCell (Nat.le_refl _) _) n2
    generalize ((((W.drewN n1).setCell ⟨A, 2, none⟩ (.string res)).setCell ⟨A, 1, none⟩ (.string front))).drewN n2 = W2 at HX2 HB2
    have x0 := HX2.out.c0
    have x1 := HX2.out.c1
    have x2 := HX2.out.c2
    have xf := HX2.out.f
    go_wp2_with fail
    refine (C4.out _).mono ?_
    rintro e w1 ⟨rfl, hw⟩
    obtain rfl := hw.symm
    go_wp2_with fail
    clear x0 x1 x2 xf
    go_step3
    simp only [Exit.then]
    first | exact ⟨rfl, ⟨_, _, _, _, _, _, _, _, _, _, _, _, _, _, _, _, _, _, _, _, _, _, _, _, _, _, _, _, _, _, _, _, _, _, _, _, _, _, _, _, _, rfl, _, _, _, HX2.out, HB2.out⟩⟩ | exact ⟨trivial, ⟨_, _, _, _, _, _, _, _, _, _, _, _, _, _, _, _, _, _, _, _, _, _, _, _, _, _, _, _, _, _, _, _, _, _, _, _, _, _, _, _, _, rfl, _, _, _, HX2.out, HB2.out⟩⟩ | exact ⟨_, _, _, _, _, _, _, _, _, _, _, _, _, _, _, _, _, _, _, _, _, _, _, _, _, _, _, _, _, _, _, _, _, _, _, _, _, _, _, _, _, rfl, _, _, _, HX2.out, HB2.out⟩

set_option maxHeartbeats 4000000 in
theorem parse_bad3f (s front res lo dom : ByteArray) (w : World)
    (C1 : Hid (∀ W, Calls Tryz.prog 53 #[.string s, .string ⟨#[47]⟩] W fun e w' => e = .returned (.tuple #[.string front, .string res, .bool false]) ∧ ∃ n, w' = W.drewN n))
    (C3 : Hid (∀ W, Calls Tryz.prog 53 #[.string front, .string ⟨#[64]⟩] W fun e w' => e = .returned (.tuple #[.string lo, .string dom, .bool true]) ∧ ∃ n, w' = W.drewN n))
    (C4 : Hid (∀ W, Calls Tryz.prog 63 #[.string lo] W fun e w' => e = .returned (.bool true) ∧ w' = W))
    (C5 : Hid (∀ W, Calls Tryz.prog 64 #[.agg #[.string lo, .string dom, .string res]] W fun e w' => e = .returned (.bool false) ∧ Below W.heap.size W w')) :
    Calls Tryz.prog 47 #[.string s] w fun e w' => e = .returned (ParseTold (none)) ∧ Below w.heap.size w w' := by
  go_enter Tryz.func47, Tryz.ntmps47
  go_wp2_with fail
  have HX : Hid (Box3 (w.alloc (.cells #[.string ⟨#[]⟩, .string ⟨#[]⟩, .string ⟨#[]⟩] 97)) w.heap.size 97 (.string ⟨#[]⟩) (.string ⟨#[]⟩) (.string ⟨#[]⟩)) := (MapKept.heap_alloc w _).1
  have HB : Hid (Below w.heap.size w (w.alloc (.cells #[.string ⟨#[]⟩, .string ⟨#[]⟩, .string ⟨#[]⟩] 97))) := balloc w _
  generalize w.alloc (.cells #[.string ⟨#[]⟩, .string ⟨#[]⟩, .string ⟨#[]⟩] 97) = W at HX HB
  generalize hA : w.heap.size = A at HX HB
  refine wp_scope_jumps 0 (fun a' w' => ∃ u4 u5 u6 u7 u8 u9 u10 u11 u12 u13 u14 u15 u16 u17 u18 u19 u20 u21 u22 u23 u24 u25 u26 u27 u28 u29 u30 u31 u32 u33 u34 u35 u36 u37 u38 u39 u40 u41 u42 u43 u44 : Value, a' = ⟨#[.string s, undef, .pointer (some ⟨A, 0, none⟩), .int .i64 0, u4, u5, u6, u7, u8, u9, u10, u11, u12, u13, u14, u15, u16, u17, u18, u19, u20, u21, u22, u23, u24, u25, u26, u27, u28, u29, u30, u31, u32, u33, u34, u35, u36, u37, u38, u39, u40, u41, u42, u43, u44], []⟩ ∧ ∃ x y z, Box3 w' A 97 x y z ∧ Below A w w') (fun _ _ => 0) rfl ?first ?pass
  case pass =>
    rintro a' wj ⟨u4, u5, u6, u7, u8, u9, u10, u11, u12, u13, u14, u15, u16, u17, u18, u19, u20, u21, u22, u23, u24, u25, u26, u27, u28, u29, u30, u31, u32, u33, u34, u35, u36, u37, u38, u39, u40, u41, u42, u43, u44, rfl, x, y, z, hx, hb⟩
    have x0 := hx.c0
    have x1 := hx.c1
    have x2 := hx.c2
    have xf := hx.f
    go_wp2_with fail
    clear x0 x1 x2 xf
    have HX4 := ((hx.set0 (.string ⟨#[]⟩)).set1 (.string ⟨#[]⟩)).set2 (.string ⟨#[]⟩)
    have HB4 := ((hb.setCell (p := ⟨A, 0, none⟩) (Nat.le_refl _) (.string ⟨#[]⟩)).setCell (p := ⟨A, 1, none⟩) (Nat.le_refl _) (.string ⟨#[]⟩)).setCell (p := ⟨A, 2, none⟩) (Nat.le_refl _) (.string ⟨#[]⟩)
    generalize (((wj.setCell ⟨A, 0, none⟩ (.string ⟨#[]⟩)).setCell ⟨A, 1, none⟩ (.string ⟨#[]⟩)).setCell ⟨A, 2, none⟩ (.string ⟨#[]⟩)) = W4 at HX4 HB4
    have x0 := HX4.c0
    have x1 := HX4.c1
    have x2 := HX4.c2
    simp only [Exit.jump]
    refine bodyPost_ret (v := ParseTold none) ?_ rfl ?_
    · simp [results, Tryz.results47, go_sem, x0, x1, x2, ParseTold]
    · exact ⟨rfl, by first | exact HB4 | (rw [hA]; exact HB4)⟩
  case first =>
    go_wp2_with fail
    refine (C1.out _).mono ?_
    rintro e w1 ⟨rfl, n1, rfl⟩
    have x0 := HX.out.c0
    have x1 := HX.out.c1
    have x2 := HX.out.c2
    have xf := HX.out.f
    go_wp2_with fail
    clear x0 x1 x2 xf
    refine (C3.out _).mono ?_
    rintro e w1 ⟨rfl, n2, rfl⟩
    have HX2 : Hid (Box3 (((((W.drewN n1).setCell ⟨A, 2, none⟩ (.string res)).setCell ⟨A, 1, none⟩ (.string front))).drewN n2) A 97 (.string ⟨#[]⟩) (.string front) (.string res)) := ((HX.out.drewN n1).set2 _ |>.set1 _).drewN n2
    have HB2 : Hid (Below A w (((((W.drewN n1).setCell ⟨A, 2, none⟩ (.string res)).setCell ⟨A, 1, none⟩ (.string front))).drewN n2)) := bdrewN (((bdrewN HB.out n1).setCell (Nat.le_refl _) _).setCell (Nat.le_refl _) _) n2
    generalize ((((W.drewN n1).setCell ⟨A, 2, none⟩ (.string res)).setCell ⟨A, 1, none⟩ (.string front))).drewN n2 = W2 at HX2 HB2
    have x0 := HX2.out.c0
    have x1 := HX2.out.c1
    have x2 := HX2.out.c2
    have xf := HX2.out.f
    go_wp2_with fail
    refine (C4.out _).mono ?_
    rintro e w1 ⟨rfl, hw⟩
    obtain rfl := hw.symm
    go_wp2_with fail
    clear x0 x1 x2 xf
    refine (C5.out _).mono ?_
    rintro e w3 ⟨rfl, b3⟩
    have HX3 : Hid (Box3 w3 A 97 (.string lo) (.string dom) (.string res)) := ((HX2.out.set0 _).set1 _).below b3
    have HB3 : Hid (Below A w w3) := ((HB2.out.setCell (Nat.le_refl _) _).setCell (Nat.le_refl _) _).trans (b3.mono (by simp; rw [← hA]; exact HB2.out.size))
    clear b3
    have x0 := HX3.out.c0
    have x1 := HX3.out.c1
    have x2 := HX3.out.c2
    have xf := HX3.out.f
    go_wp2_with fail
    clear x0 x1 x2 xf
    go_step3
    simp only [Exit.then]
    first | exact ⟨rfl, ⟨_, _, _, _, _, _, _, _, _, _, _, _, _, _, _, _, _, _, _, _, _, _, _, _, _, _, _, _, _, _, _, _, _, _, _, _, _, _, _, _, _, rfl, _, _, _, HX3.out, HB3.out⟩⟩ | exact ⟨trivial, ⟨_, _, _, _, _, _, _, _, _, _, _, _, _, _, _, _, _, _, _, _, _, _, _, _, _, _, _, _, _, _, _, _, _, _, _, _, _, _, _, _, _, rfl, _, _, _, HX3.out, HB3.out⟩⟩ | exact ⟨_, _, _, _, _, _, _, _, _, _, _, _, _, _, _, _, _, _, _, _, _, _, _, _, _, _, _, _, _, _, _, _, _, _, _, _, _, _, _, _, _, rfl, _, _, _, HX3.out, HB3.out⟩

set_option maxHeartbeats 4000000 in
theorem parse_ok1f (s front res lo dom : ByteArray) (w : World)
    (C1 : Hid (∀ W, Calls Tryz.prog 53 #[.string s, .string ⟨#[47]⟩] W fun e w' => e = .returned (.tuple #[.string front, .string res, .bool false]) ∧ ∃ n, w' = W.drewN n))
    (C3 : Hid (∀ W, Calls Tryz.prog 53 #[.string front, .string ⟨#[64]⟩] W fun e w' => e = .returned (.tuple #[.string lo, .string dom, .bool true]) ∧ ∃ n, w' = W.drewN n))
    (C4 : Hid (∀ W, Calls Tryz.prog 63 #[.string lo] W fun e w' => e = .returned (.bool true) ∧ w' = W))
    (C5 : Hid (∀ W, Calls Tryz.prog 64 #[.agg #[.string lo, .string dom, .string res]] W fun e w' => e = .returned (.bool true) ∧ Below W.heap.size W w')) :
    Calls Tryz.prog 47 #[.string s] w fun e w' => e = .returned (ParseTold (some (lo, dom, res))) ∧ Below w.heap.size w w' := by
  go_enter Tryz.func47, Tryz.ntmps47
  go_wp2_with fail
  have HX : Hid (Box3 (w.alloc (.cells #[.string ⟨#[]⟩, .string ⟨#[]⟩, .string ⟨#[]⟩] 97)) w.heap.size 97 (.string ⟨#[]⟩) (.string ⟨#[]⟩) (.string ⟨#[]⟩)) := (MapKept.heap_alloc w _).1
  have HB : Hid (Below w.heap.size w (w.alloc (.cells #[.string ⟨#[]⟩, .string ⟨#[]⟩, .string ⟨#[]⟩] 97))) := balloc w _
  generalize w.alloc (.cells #[.string ⟨#[]⟩, .string ⟨#[]⟩, .string ⟨#[]⟩] 97) = W at HX HB
  generalize hA : w.heap.size = A at HX HB
  go_step3
  go_wp2_with fail
  refine (C1.out _).mono ?_
  rintro e w1 ⟨rfl, n1, rfl⟩
  have x0 := HX.out.c0
  have x1 := HX.out.c1
  have x2 := HX.out.c2
  have xf := HX.out.f
  go_wp2_with fail
  clear x0 x1 x2 xf
  refine (C3.out _).mono ?_
  rintro e w1 ⟨rfl, n2, rfl⟩
  have HX2 : Hid (Box3 (((((W.drewN n1).setCell ⟨A, 2, none⟩ (.string res)).setCell ⟨A, 1, none⟩ (.string front))).drewN n2) A 97 (.string ⟨#[]⟩) (.string front) (.string res)) := ((HX.out.drewN n1).set2 _ |>.set1 _).drewN n2
  have HB2 : Hid (Below A w (((((W.drewN n1).setCell ⟨A, 2, none⟩ (.string res)).setCell ⟨A, 1, none⟩ (.string front))).drewN n2)) := bdrewN (((bdrewN HB.out n1).setCell (Nat.le_refl _) _).setCell (Nat.le_refl _) _) n2
  generalize ((((W.drewN n1).setCell ⟨A, 2, none⟩ (.string res)).setCell ⟨A, 1, none⟩ (.string front))).drewN n2 = W2 at HX2 HB2
  have x0 := HX2.out.c0
  have x1 := HX2.out.c1
  have x2 := HX2.out.c2
  have xf := HX2.out.f
  go_wp2_with fail
  refine (C4.out _).mono ?_
  rintro e w1 ⟨rfl, hw⟩
  obtain rfl := hw.symm
  go_wp2_with fail
  clear x0 x1 x2 xf
  refine (C5.out _).mono ?_
  rintro e w3 ⟨rfl, b3⟩
  have HX3 : Hid (Box3 w3 A 97 (.string lo) (.string dom) (.string res)) := ((HX2.out.set0 _).set1 _).below b3
  have HB3 : Hid (Below A w w3) := ((HB2.out.setCell (Nat.le_refl _) _).setCell (Nat.le_refl _) _).trans (b3.mono (by simp; rw [← hA]; exact HB2.out.size))
  clear b3
  have x0 := HX3.out.c0
  have x1 := HX3.out.c1
  have x2 := HX3.out.c2
  have xf := HX3.out.f
  go_wp2_with fail
  clear x0 x1 x2 xf
  have HX4 := ((HX3.out.set0 (.string lo)).set1 (.string dom)).set2 (.string res)
  have HB4 : Below A w (((w3.setCell ⟨A, 0, none⟩ (.string lo)).setCell ⟨A, 1, none⟩ (.string dom)).setCell ⟨A, 2, none⟩ (.string res)) := ((HB3.out.setCell (Nat.le_refl _) _).setCell (Nat.le_refl _) _).setCell (Nat.le_refl _) _
  generalize (((w3.setCell ⟨A, 0, none⟩ (.string lo)).setCell ⟨A, 1, none⟩ (.string dom)).setCell ⟨A, 2, none⟩ (.string res)) = W4 at HX4 HB4
  have x0 := HX4.c0
  have x1 := HX4.c1
  have x2 := HX4.c2
  rw [Exit.noGoto_ret]
  refine bodyPost_ret (v := ParseTold (some (lo, dom, res))) ?_ rfl ?_
  · simp [results, Tryz.results47, go_sem, x0, x1, x2, ParseTold]
  · exact ⟨rfl, by first | exact HB4 | (rw [hA]; exact HB4)⟩

set_option maxHeartbeats 4000000 in
theorem parse_bad4f (s front res lo dom : ByteArray) (w : World)
    (C1 : Hid (∀ W, Calls Tryz.prog 53 #[.string s, .string ⟨#[47]⟩] W fun e w' => e = .returned (.tuple #[.string front, .string res, .bool false]) ∧ ∃ n, w' = W.drewN n))
    (C3 : Hid (∀ W, Calls Tryz.prog 53 #[.string front, .string ⟨#[64]⟩] W fun e w' => e = .returned (.tuple #[.string lo, .string dom, .bool false]) ∧ ∃ n, w' = W.drewN n))
    (C5 : Hid (∀ W, Calls Tryz.prog 64 #[.agg #[.string ⟨#[]⟩, .string front, .string res]] W fun e w' => e = .returned (.bool false) ∧ Below W.heap.size W w')) :
    Calls Tryz.prog 47 #[.string s] w fun e w' => e = .returned (ParseTold (none)) ∧ Below w.heap.size w w' := by
  go_enter Tryz.func47, Tryz.ntmps47
  go_wp2_with fail
  have HX : Hid (Box3 (w.alloc (.cells #[.string ⟨#[]⟩, .string ⟨#[]⟩, .string ⟨#[]⟩] 97)) w.heap.size 97 (.string ⟨#[]⟩) (.string ⟨#[]⟩) (.string ⟨#[]⟩)) := (MapKept.heap_alloc w _).1
  have HB : Hid (Below w.heap.size w (w.alloc (.cells #[.string ⟨#[]⟩, .string ⟨#[]⟩, .string ⟨#[]⟩] 97))) := balloc w _
  generalize w.alloc (.cells #[.string ⟨#[]⟩, .string ⟨#[]⟩, .string ⟨#[]⟩] 97) = W at HX HB
  generalize hA : w.heap.size = A at HX HB
  refine wp_scope_jumps 0 (fun a' w' => ∃ u4 u5 u6 u7 u8 u9 u10 u11 u12 u13 u14 u15 u16 u17 u18 u19 u20 u21 u22 u23 u24 u25 u26 u27 u28 u29 u30 u31 u32 u33 u34 u35 u36 u37 u38 u39 u40 u41 u42 u43 u44 : Value, a' = ⟨#[.string s, undef, .pointer (some ⟨A, 0, none⟩), .int .i64 0, u4, u5, u6, u7, u8, u9, u10, u11, u12, u13, u14, u15, u16, u17, u18, u19, u20, u21, u22, u23, u24, u25, u26, u27, u28, u29, u30, u31, u32, u33, u34, u35, u36, u37, u38, u39, u40, u41, u42, u43, u44], []⟩ ∧ ∃ x y z, Box3 w' A 97 x y z ∧ Below A w w') (fun _ _ => 0) rfl ?first ?pass
  case pass =>
    rintro a' wj ⟨u4, u5, u6, u7, u8, u9, u10, u11, u12, u13, u14, u15, u16, u17, u18, u19, u20, u21, u22, u23, u24, u25, u26, u27, u28, u29, u30, u31, u32, u33, u34, u35, u36, u37, u38, u39, u40, u41, u42, u43, u44, rfl, x, y, z, hx, hb⟩
    have x0 := hx.c0
    have x1 := hx.c1
    have x2 := hx.c2
    have xf := hx.f
    go_wp2_with fail
    clear x0 x1 x2 xf
    have HX4 := ((hx.set0 (.string ⟨#[]⟩)).set1 (.string ⟨#[]⟩)).set2 (.string ⟨#[]⟩)
    have HB4 := ((hb.setCell (p := ⟨A, 0, none⟩) (Nat.le_refl _) (.string ⟨#[]⟩)).setCell (p := ⟨A, 1, none⟩) (Nat.le_refl _) (.string ⟨#[]⟩)).setCell (p := ⟨A, 2, none⟩) (Nat.le_refl _) (.string ⟨#[]⟩)
    generalize (((wj.setCell ⟨A, 0, none⟩ (.string ⟨#[]⟩)).setCell ⟨A, 1, none⟩ (.string ⟨#[]⟩)).setCell ⟨A, 2, none⟩ (.string ⟨#[]⟩)) = W4 at HX4 HB4
    have x0 := HX4.c0
    have x1 := HX4.c1
    have x2 := HX4.c2
    simp only [Exit.jump]
    refine bodyPost_ret (v := ParseTold none) ?_ rfl ?_
    · simp [results, Tryz.results47, go_sem, x0, x1, x2, ParseTold]
    · exact ⟨rfl, by first | exact HB4 | (rw [hA]; exact HB4)⟩
  case first =>
    go_wp2_with fail
    refine (C1.out _).mono ?_
    rintro e w1 ⟨rfl, n1, rfl⟩
    have x0 := HX.out.c0
    have x1 := HX.out.c1
    have x2 := HX.out.c2
    have xf := HX.out.f
    go_wp2_with fail
    clear x0 x1 x2 xf
    refine (C3.out _).mono ?_
    rintro e w1 ⟨rfl, n2, rfl⟩
    have HX2 : Hid (Box3 (((((W.drewN n1).setCell ⟨A, 2, none⟩ (.string res)).setCell ⟨A, 1, none⟩ (.string front))).drewN n2) A 97 (.string ⟨#[]⟩) (.string front) (.string res)) := ((HX.out.drewN n1).set2 _ |>.set1 _).drewN n2
    have HB2 : Hid (Below A w (((((W.drewN n1).setCell ⟨A, 2, none⟩ (.string res)).setCell ⟨A, 1, none⟩ (.string front))).drewN n2)) := bdrewN (((bdrewN HB.out n1).setCell (Nat.le_refl _) _).setCell (Nat.le_refl _) _) n2
    generalize ((((W.drewN n1).setCell ⟨A, 2, none⟩ (.string res)).setCell ⟨A, 1, none⟩ (.string front))).drewN n2 = W2 at HX2 HB2
    have x0 := HX2.out.c0
    have x1 := HX2.out.c1
    have x2 := HX2.out.c2
    have xf := HX2.out.f
    go_wp2_with fail
    clear x0 x1 x2 xf
    refine (C5.out _).mono ?_
    rintro e w3 ⟨rfl, b3⟩
    have HX3 : Hid (Box3 w3 A 97 (.string ⟨#[]⟩) (.string front) (.string res)) := HX2.out.below b3
    have HB3 : Hid (Below A w w3) := HB2.out.trans (b3.mono (by rw [← hA]; exact HB2.out.size))
    clear b3
    have x0 := HX3.out.c0
    have x1 := HX3.out.c1
    have x2 := HX3.out.c2
    have xf := HX3.out.f
    go_wp2_with fail
    clear x0 x1 x2 xf
    go_step3
    simp only [Exit.then]
    first | exact ⟨rfl, ⟨_, _, _, _, _, _, _, _, _, _, _, _, _, _, _, _, _, _, _, _, _, _, _, _, _, _, _, _, _, _, _, _, _, _, _, _, _, _, _, _, _, rfl, _, _, _, HX3.out, HB3.out⟩⟩ | exact ⟨trivial, ⟨_, _, _, _, _, _, _, _, _, _, _, _, _, _, _, _, _, _, _, _, _, _, _, _, _, _, _, _, _, _, _, _, _, _, _, _, _, _, _, _, _, rfl, _, _, _, HX3.out, HB3.out⟩⟩ | exact ⟨_, _, _, _, _, _, _, _, _, _, _, _, _, _, _, _, _, _, _, _, _, _, _, _, _, _, _, _, _, _, _, _, _, _, _, _, _, _, _, _, _, rfl, _, _, _, HX3.out, HB3.out⟩

set_option maxHeartbeats 4000000 in
theorem parse_ok2f (s front res lo dom : ByteArray) (w : World)
    (C1 : Hid (∀ W, Calls Tryz.prog 53 #[.string s, .string ⟨#[47]⟩] W fun e w' => e = .returned (.tuple #[.string front, .string res, .bool false]) ∧ ∃ n, w' = W.drewN n))
    (C3 : Hid (∀ W, Calls Tryz.prog 53 #[.string front, .string ⟨#[64]⟩] W fun e w' => e = .returned (.tuple #[.string lo, .string dom, .bool false]) ∧ ∃ n, w' = W.drewN n))
    (C5 : Hid (∀ W, Calls Tryz.prog 64 #[.agg #[.string ⟨#[]⟩, .string front, .string res]] W fun e w' => e = .returned (.bool true) ∧ Below W.heap.size W w')) :
    Calls Tryz.prog 47 #[.string s] w fun e w' => e = .returned (ParseTold (some (⟨#[]⟩, front, res))) ∧ Below w.heap.size w w' := by
  go_enter Tryz.func47, Tryz.ntmps47
  go_wp2_with fail
  have HX : Hid (Box3 (w.alloc (.cells #[.string ⟨#[]⟩, .string ⟨#[]⟩, .string ⟨#[]⟩] 97)) w.heap.size 97 (.string ⟨#[]⟩) (.string ⟨#[]⟩) (.string ⟨#[]⟩)) := (MapKept.heap_alloc w _).1
  have HB : Hid (Below w.heap.size w (w.alloc (.cells #[.string ⟨#[]⟩, .string ⟨#[]⟩, .string ⟨#[]⟩] 97))) := balloc w _
  generalize w.alloc (.cells #[.string ⟨#[]⟩, .string ⟨#[]⟩, .string ⟨#[]⟩] 97) = W at HX HB
  generalize hA : w.heap.size = A at HX HB
  go_step3
  go_wp2_with fail
  refine (C1.out _).mono ?_
  rintro e w1 ⟨rfl, n1, rfl⟩
  have x0 := HX.out.c0
  have x1 := HX.out.c1
  have x2 := HX.out.c2
  have xf := HX.out.f
  go_wp2_with fail
  clear x0 x1 x2 xf
  refine (C3.out _).mono ?_
  rintro e w1 ⟨rfl, n2, rfl⟩
  have HX2 : Hid (Box3 (((((W.drewN n1).setCell ⟨A, 2, none⟩ (.string res)).setCell ⟨A, 1, none⟩ (.string front))).drewN n2) A 97 (.string ⟨#[]⟩) (.string front) (.string res)) := ((HX.out.drewN n1).set2 _ |>.set1 _).drewN n2
  have HB2 : Hid (Below A w (((((W.drewN n1).setCell ⟨A, 2, none⟩ (.string res)).setCell ⟨A, 1, none⟩ (.string front))).drewN n2)) := bdrewN (((bdrewN HB.out n1).setCell (Nat.le_refl _) _).setCell (Nat.le_refl _) _) n2
  generalize ((((W.drewN n1).setCell ⟨A, 2, none⟩ (.string res)).setCell ⟨A, 1, none⟩ (.string front))).drewN n2 = W2 at HX2 HB2
  have x0 := HX2.out.c0
  have x1 := HX2.out.c1
  have x2 := HX2.out.c2
  have xf := HX2.out.f
  go_wp2_with fail
  clear x0 x1 x2 xf
  refine (C5.out _).mono ?_
  rintro e w3 ⟨rfl, b3⟩
  have HX3 : Hid (Box3 w3 A 97 (.string ⟨#[]⟩) (.string front) (.string res)) := HX2.out.below b3
  have HB3 : Hid (Below A w w3) := HB2.out.trans (b3.mono (by rw [← hA]; exact HB2.out.size))
  clear b3
  have x0 := HX3.out.c0
  have x1 := HX3.out.c1
  have x2 := HX3.out.c2
  have xf := HX3.out.f
  go_wp2_with fail
  clear x0 x1 x2 xf
  have HX4 := ((HX3.out.set0 (.string ⟨#[]⟩)).set1 (.string front)).set2 (.string res)
  have HB4 : Below A w (((w3.setCell ⟨A, 0, none⟩ (.string ⟨#[]⟩)).setCell ⟨A, 1, none⟩ (.string front)).setCell ⟨A, 2, none⟩ (.string res)) := ((HB3.out.setCell (Nat.le_refl _) _).setCell (Nat.le_refl _) _).setCell (Nat.le_refl _) _
  generalize (((w3.setCell ⟨A, 0, none⟩ (.string ⟨#[]⟩)).setCell ⟨A, 1, none⟩ (.string front)).setCell ⟨A, 2, none⟩ (.string res)) = W4 at HX4 HB4
  have x0 := HX4.c0
  have x1 := HX4.c1
  have x2 := HX4.c2
  rw [Exit.noGoto_ret]
  refine bodyPost_ret (v := ParseTold (some (⟨#[]⟩, front, res))) ?_ rfl ?_
  · simp [results, Tryz.results47, go_sem, x0, x1, x2, ParseTold]
  · exact ⟨rfl, by first | exact HB4 | (rw [hA]; exact HB4)⟩
theorem cutAt_both (c : UInt8) (l : List UInt8) : (cutAt c l).1.length + (cutAt c l).2.1.length ≤ l.length := by
  rcases idx_cut c l with ⟨-, h, -⟩ | ⟨i, hi, -, h, -, -⟩
  · rw [h]; simp
  · rw [h]; simp; omega
theorem cutS_size (c : UInt8) (s : ByteArray) : (cutS c s).1.size ≤ s.size ∧ (cutS c s).2.1.size ≤ s.size := by
  have h := cutAt_both c s.data.toList
  have h1 := Lib.size_eq s
  unfold cutS
  constructor <;> simp only [ByteArray.size, List.size_toArray] <;> (have h2 : s.data.size = s.size := rfl; omega)

theorem parse_any (s : ByteArray) (w : World) (hs : s.size ≤ 9223372036854775806) :
    Calls Tryz.prog 47 #[.string s] w fun e w' => e = .returned (ParseTold (parseB s)) ∧ Below w.heap.size w w' := by
  have z1 := cutS_size 47 s
  have z2 := cutS_size 64 (cutS 47 s).1
  have C1 : ∀ b, (cutS 47 s).2.2 = b → Hid (∀ W, Calls Tryz.prog 53 #[.string s, .string ⟨#[47]⟩] W fun e w' => e = .returned (.tuple #[.string (cutS 47 s).1, .string (cutS 47 s).2.1, .bool b]) ∧ ∃ n, w' = W.drewN n) := fun b hb W => by
    rw [← hb]; exact cut_byte s 47 W hs
  have C2 : ∀ b, partB (cutS 47 s).2.1 = b → Hid (∀ W, Calls Tryz.prog 63 #[.string (cutS 47 s).2.1] W fun e w' => e = .returned (.bool b) ∧ w' = W) := fun b hb W => by
    rw [← hb]; exact part_any _ W (by omega)
  have C3 : ∀ b, (cutS 64 (cutS 47 s).1).2.2 = b → Hid (∀ W, Calls Tryz.prog 53 #[.string (cutS 47 s).1, .string ⟨#[64]⟩] W fun e w' => e = .returned (.tuple #[.string (cutS 64 (cutS 47 s).1).1, .string (cutS 64 (cutS 47 s).1).2.1, .bool b]) ∧ ∃ n, w' = W.drewN n) := fun b hb W => by
    rw [← hb]; exact cut_byte _ 64 W (by omega)
  have C4 : ∀ b, partB (cutS 64 (cutS 47 s).1).1 = b → Hid (∀ W, Calls Tryz.prog 63 #[.string (cutS 64 (cutS 47 s).1).1] W fun e w' => e = .returned (.bool b) ∧ w' = W) := fun b hb W => by
    rw [← hb]; exact part_any _ W (by omega)
  have C5 : ∀ l d r : ByteArray, l.size ≤ 9223372036854775806 → d.size ≤ 9223372036854775806 → r.size ≤ 9223372036854775806 → ∀ b, jidRight l d r = b → Hid (∀ W, Calls Tryz.prog 64 #[.agg #[.string l, .string d, .string r]] W fun e w' => e = .returned (.bool b) ∧ Below W.heap.size W w') := fun l d r h1 h2 h3 b hb W => by
    rw [← hb]; exact jidRight_any l d r W h1 h2 h3
  have D5 := C5 (cutS 64 (cutS 47 s).1).1 (cutS 64 (cutS 47 s).1).2.1 (cutS 47 s).2.1 (by omega) (by omega) (by omega)
  have E5 := C5 ⟨#[]⟩ (cutS 47 s).1 (cutS 47 s).2.1 (by decide) (by omega) (by omega)
  unfold parseB
  cases h1 : (cutS 47 s).2.2 <;> cases h2 : partB (cutS 47 s).2.1 <;> cases h3 : (cutS 64 (cutS 47 s).1).2.2 <;> cases h4 : partB (cutS 64 (cutS 47 s).1).1 <;>
    cases h5 : jidRight (cutS 64 (cutS 47 s).1).1 (cutS 64 (cutS 47 s).1).2.1 (cutS 47 s).2.1 <;> cases h6 : jidRight ⟨#[]⟩ (cutS 47 s).1 (cutS 47 s).2.1 <;>
    simp only [Bool.false_eq_true, Bool.true_eq_false, and_true, and_false, if_true, if_false, and_self] <;>
    first
    | exact parse_bad1 s _ _ ⟨#[]⟩ ⟨#[]⟩ w (C1 _ h1) (C2 _ h2)
    | exact parse_bad2t s _ _ _ _ w (C1 _ h1) (C2 _ h2) (C3 _ h3) (C4 _ h4)
    | exact parse_bad3t s _ _ _ _ w (C1 _ h1) (C2 _ h2) (C3 _ h3) (C4 _ h4) (D5 _ h5)
    | exact parse_ok1t s _ _ _ _ w (C1 _ h1) (C2 _ h2) (C3 _ h3) (C4 _ h4) (D5 _ h5)
    | exact parse_bad4t s _ _ _ _ w (C1 _ h1) (C2 _ h2) (C3 _ h3) (E5 _ h6)
    | exact parse_ok2t s _ _ _ _ w (C1 _ h1) (C2 _ h2) (C3 _ h3) (E5 _ h6)
    | exact parse_bad2f s _ _ _ _ w (C1 _ h1) (C3 _ h3) (C4 _ h4)
    | exact parse_bad3f s _ _ _ _ w (C1 _ h1) (C3 _ h3) (C4 _ h4) (D5 _ h5)
    | exact parse_ok1f s _ _ _ _ w (C1 _ h1) (C3 _ h3) (C4 _ h4) (D5 _ h5)
    | exact parse_bad4f s _ _ _ _ w (C1 _ h1) (C3 _ h3) (E5 _ h6)
    | exact parse_ok2f s _ _ _ _ w (C1 _ h1) (C3 _ h3) (E5 _ h6)
end Go.Proofs.YtpjaopcgoaannaaGreatDoor
