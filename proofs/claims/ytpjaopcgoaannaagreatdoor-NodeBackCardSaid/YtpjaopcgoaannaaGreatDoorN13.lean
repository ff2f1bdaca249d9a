/- node.Name, node.Body, jid.Normal, node.Address. Written by gen_n13.py. -/
import Derived.Test.YtpjaopcgoaannaaGreatDoorChr
import Derived.Test.YtpjaopcgoaannaaGreatDoorJ4
import Derived.Test.YtpjaopcgoaannaaGreatDoorN11
import Derived.Deep.DeepCutAuto
import Derived.Deep.RegionHeld3
namespace Go.Proofs.YtpjaopcgoaannaaGreatDoor
open Go.RowKit Go.Lib
open Hb

def notN (x : Nat) : Bool := !((decide (97 ≤ x) && decide (x ≤ 122)) || (decide (48 ≤ x) && decide (x ≤ 57)) || decide (x = 45) || decide (x = 46))
def nameB (s : ByteArray) : Bool := decide (1 ≤ s.size) && decide (s.size ≤ 24) && decide (Lib.idxFunc notN true s < 0)
def bodyB (s : ByteArray) : Bool := decide (s.size ≤ 512) && chars s.data.toList
def addrB (s : ByteArray) : Bool := match parseB s with | none => false | some (l, d, r) => eqS (lowB l) l && eqS (lowB d) d && eqS r ⟨#[]⟩
theorem clsN (n : Nat) : n < 45 ∨ (45 ≤ n ∧ n < 46) ∨ (46 ≤ n ∧ n < 47) ∨ (47 ≤ n ∧ n < 48) ∨ (48 ≤ n ∧ n < 58) ∨ (58 ≤ n ∧ n < 97) ∨ (97 ≤ n ∧ n < 123) ∨ 123 ≤ n := by omega
set_option maxHeartbeats 4000000 in
theorem nameP_any (x : Nat) (w : World) : Calls Tryz.prog 46 #[encR x] w fun e w' => e = .returned (.bool (notN x)) ∧ w' = w := by
  show Calls Tryz.prog 46 #[.int .i32 (x : Int)] w _
  rcases clsN x with h | h | h | h | h | h | h | h
  · have HF : Hid (notN x = true) := by show _ = _; unfold notN; simp; omega
    have a1 : decide ((x : Int) < 97) = true := by simp; omega
    have a2 : decide ((122 : Int) < (x : Int)) = false := by simp; omega
    have a3 : decide ((x : Int) < 48) = true := by simp; omega
    have a4 : decide ((57 : Int) < (x : Int)) = false := by simp; omega
    have a5 : ((x : Int) != 45) = true := by rw [bne_iff_ne]; omega
    have a6 : ((x : Int) != 46) = true := by rw [bne_iff_ne]; omega
    clear h
    go_enter Tryz.func46, Tryz.ntmps46
    go_wp2_with fail
    go_returns
    exact ⟨by rw [HF.out]; rfl, rfl⟩
  · have HF : Hid (notN x = false) := by show _ = _; unfold notN; simp; omega
    have a1 : decide ((x : Int) < 97) = true := by simp; omega
    have a2 : decide ((122 : Int) < (x : Int)) = false := by simp; omega
    have a3 : decide ((x : Int) < 48) = true := by simp; omega
    have a4 : decide ((57 : Int) < (x : Int)) = false := by simp; omega
    have a5 : ((x : Int) != 45) = false := by rw [bne_eq_false_iff_eq]; omega
    have a6 : ((x : Int) != 46) = true := by rw [bne_iff_ne]; omega
    clear h
    go_enter Tryz.func46, Tryz.ntmps46
    go_wp2_with fail
    go_returns
    exact ⟨by rw [HF.out]; rfl, rfl⟩
  · have HF : Hid (notN x = false) := by show _ = _; unfold notN; simp; omega
    have a1 : decide ((x : Int) < 97) = true := by simp; omega
    have a2 : decide ((122 : Int) < (x : Int)) = false := by simp; omega
    have a3 : decide ((x : Int) < 48) = true := by simp; omega
    have a4 : decide ((57 : Int) < (x : Int)) = false := by simp; omega
    have a5 : ((x : Int) != 45) = true := by rw [bne_iff_ne]; omega
    have a6 : ((x : Int) != 46) = false := by rw [bne_eq_false_iff_eq]; omega
    clear h
    go_enter Tryz.func46, Tryz.ntmps46
    go_wp2_with fail
    go_returns
    exact ⟨by rw [HF.out]; rfl, rfl⟩
  · have HF : Hid (notN x = true) := by show _ = _; unfold notN; simp; omega
    have a1 : decide ((x : Int) < 97) = true := by simp; omega
    have a2 : decide ((122 : Int) < (x : Int)) = false := by simp; omega
    have a3 : decide ((x : Int) < 48) = true := by simp; omega
    have a4 : decide ((57 : Int) < (x : Int)) = false := by simp; omega
    have a5 : ((x : Int) != 45) = true := by rw [bne_iff_ne]; omega
    have a6 : ((x : Int) != 46) = true := by rw [bne_iff_ne]; omega
    clear h
    go_enter Tryz.func46, Tryz.ntmps46
    go_wp2_with fail
    go_returns
    exact ⟨by rw [HF.out]; rfl, rfl⟩
  · have HF : Hid (notN x = false) := by show _ = _; unfold notN; simp; omega
    have a1 : decide ((x : Int) < 97) = true := by simp; omega
    have a2 : decide ((122 : Int) < (x : Int)) = false := by simp; omega
    have a3 : decide ((x : Int) < 48) = false := by simp; omega
    have a4 : decide ((57 : Int) < (x : Int)) = false := by simp; omega
    have a5 : ((x : Int) != 45) = true := by rw [bne_iff_ne]; omega
    have a6 : ((x : Int) != 46) = true := by rw [bne_iff_ne]; omega
    clear h
    go_enter Tryz.func46, Tryz.ntmps46
    go_wp2_with fail
    go_returns
    exact ⟨by rw [HF.out]; rfl, rfl⟩
  · have HF : Hid (notN x = true) := by show _ = _; unfold notN; simp; omega
    have a1 : decide ((x : Int) < 97) = true := by simp; omega
    have a2 : decide ((122 : Int) < (x : Int)) = false := by simp; omega
    have a3 : decide ((x : Int) < 48) = false := by simp; omega
    have a4 : decide ((57 : Int) < (x : Int)) = true := by simp; omega
    have a5 : ((x : Int) != 45) = true := by rw [bne_iff_ne]; omega
    have a6 : ((x : Int) != 46) = true := by rw [bne_iff_ne]; omega
    clear h
    go_enter Tryz.func46, Tryz.ntmps46
    go_wp2_with fail
    go_returns
    exact ⟨by rw [HF.out]; rfl, rfl⟩
  · have HF : Hid (notN x = false) := by show _ = _; unfold notN; simp; omega
    have a1 : decide ((x : Int) < 97) = false := by simp; omega
    have a2 : decide ((122 : Int) < (x : Int)) = false := by simp; omega
    have a3 : decide ((x : Int) < 48) = false := by simp; omega
    have a4 : decide ((57 : Int) < (x : Int)) = true := by simp; omega
    have a5 : ((x : Int) != 45) = true := by rw [bne_iff_ne]; omega
    have a6 : ((x : Int) != 46) = true := by rw [bne_iff_ne]; omega
    clear h
    go_enter Tryz.func46, Tryz.ntmps46
    go_wp2_with fail
    go_returns
    exact ⟨by rw [HF.out]; rfl, rfl⟩
  · have HF : Hid (notN x = true) := by show _ = _; unfold notN; simp; omega
    have a1 : decide ((x : Int) < 97) = false := by simp; omega
    have a2 : decide ((122 : Int) < (x : Int)) = true := by simp; omega
    have a3 : decide ((x : Int) < 48) = false := by simp; omega
    have a4 : decide ((57 : Int) < (x : Int)) = true := by simp; omega
    have a5 : ((x : Int) != 45) = true := by rw [bne_iff_ne]; omega
    have a6 : ((x : Int) != 46) = true := by rw [bne_iff_ne]; omega
    clear h
    go_enter Tryz.func46, Tryz.ntmps46
    go_wp2_with fail
    go_returns
    exact ⟨by rw [HF.out]; rfl, rfl⟩
theorem fnGives_name (x : Nat) (w : World) : FnGives Tryz.prog 46 #[] #[encR x] (.bool (notN x)) w :=
  (nameP_any x w).mono fun _ _ ⟨h1, h2⟩ => ⟨h1, 0, h2⟩
set_option maxHeartbeats 4000000 in
theorem name_any (s : ByteArray) (w : World) (hs : s.size ≤ 9223372036854775806) : Calls Tryz.prog 23 #[.string s] w fun e w' => e = .returned (.bool (nameB s)) ∧ Below w.heap.size w w' := by
  have hI := Tryz.strings_IndexFunc 46 #[] (enters_of Tryz.func46 (by kernel_rfl) rfl) notN s w (fun W x _ => fnGives_name x W)
  have HN : Hid (nameB s = (decide (1 ≤ s.size) && decide (s.size ≤ 24) && decide (Lib.idxFunc notN true s < 0))) := rfl
  have HI := Lib.hid hI
  clear hI
  generalize Lib.idxFunc notN true s = r at *
  by_cases h0 : s.size = 0
  · obtain rfl := empty_of h0
    go_enter Tryz.func23, Tryz.ntmps23
    go_wp2_with fail
    go_returns
    exact ⟨by rw [HN.out]; rfl, Below.refl _ _⟩
  · have h1 := nonempty_of h0
    have hz : (s.toList == []) = false := by rw [← h1]; cases s.toList <;> rfl
    by_cases h2 : s.size ≤ 24
    · have h3 : ((s.size : Int) ≤ 24) := by omega
      have HN2 : Hid (nameB s = decide (r < 0)) := by
        show _ = _
        rw [HN.out, decide_eq_true (show 1 ≤ s.size by omega), decide_eq_true h2]
        simp
      clear HN
      go_enter Tryz.func23, Tryz.ntmps23
      go_wp2_with fail
      refine HI.out.mono ?_
      rintro e w1 ⟨rfl, hB⟩
      go_wp2_with fail
      go_returns
      exact ⟨by rw [HN2.out]; rfl, hB⟩
    · have h3 : ¬ ((s.size : Int) ≤ 24) := by omega
      have HN2 : Hid (nameB s = false) := by
        show _ = _
        rw [HN.out, decide_eq_false h2]
        simp
      clear HN
      go_enter Tryz.func23, Tryz.ntmps23
      go_wp2_with fail
      go_returns
      exact ⟨by rw [HN2.out]; rfl, Below.refl _ _⟩
set_option maxHeartbeats 4000000 in
theorem body_any (s : ByteArray) (w : World) (hs : s.size ≤ 9223372036854775806) : Calls Tryz.prog 29 #[.string s] w fun e w' => e = .returned (.bool (bodyB s)) ∧ Below w.heap.size w w' := by
  have hC := chars_any s w
  have HN : Hid (bodyB s = (decide (s.size ≤ 512) && chars s.data.toList)) := rfl
  have HC := Lib.hid hC
  clear hC
  generalize chars s.data.toList = r at *
  by_cases h2 : s.size ≤ 512
  · have h3 : ((s.size : Int) ≤ 512) := by omega
    have HN2 : Hid (bodyB s = r) := by
      show _ = _
      rw [HN.out, decide_eq_true h2]
      simp
    clear HN
    go_enter Tryz.func29, Tryz.ntmps29
    go_wp2_with fail
    refine HC.out.mono ?_
    rintro e w1 ⟨rfl, hB⟩
    go_wp2_with fail
    go_returns
    exact ⟨by rw [HN2.out]; rfl, hB⟩
  · have h3 : ¬ ((s.size : Int) ≤ 512) := by omega
    have HN2 : Hid (bodyB s = false) := by
      show _ = _
      rw [HN.out, decide_eq_false h2]
      simp
    clear HN
    go_enter Tryz.func29, Tryz.ntmps29
    go_wp2_with fail
    go_returns
    exact ⟨by rw [HN2.out]; rfl, Below.refl _ _⟩

set_option maxHeartbeats 4000000 in
theorem neq_jid (a b c a' b' c' : ByteArray) (W : World) : (binOp .neq 97 (.agg #[.string a, .string b, .string c]) (.agg #[.string a', .string b', .string c'])).run Tryz.prog W = .ok (.bool (!(eqS a a' && eqS b b' && eqS c c'))) W := by
  have hS : Tryz.prog.underlying 97 = some (.struct (Tryz.prog.fieldsOf 97)) := by kernel_rfl
  have hp : Tryz.prog.stoodInHeld 97 = false := by kernel_rfl
  rw [run_neq_struct, show (10000 : Nat) = 9999 + 1 from rfl, run_equalIn_agg W 9999 97 _ _ hS hp]
  have u9 := Tryz.underlying9
  have a9 := Tryz.isAgg9
  have z9 := Tryz.sizeOf9
  have e1 := eqS_def a a'
  have e2 := eqS_def b b'
  have e3 := eqS_def c c'
  simp only [Program.fieldsOf, Tryz.underlying97]
  rw [eqS_def, eqS_def, eqS_def]
  cases h1 : (a.toList == a'.toList) <;> cases h2 : (b.toList == b'.toList) <;> cases h3 : (c.toList == c'.toList) <;> go_simp

set_option maxHeartbeats 4000000 in
theorem eql_jid (a b c a' b' c' : ByteArray) (W : World) : (binOp .eql 97 (.agg #[.string a, .string b, .string c]) (.agg #[.string a', .string b', .string c'])).run Tryz.prog W = .ok (.bool ((eqS a a' && eqS b b' && eqS c c'))) W := by
  have hS : Tryz.prog.underlying 97 = some (.struct (Tryz.prog.fieldsOf 97)) := by kernel_rfl
  have hp : Tryz.prog.stoodInHeld 97 = false := by kernel_rfl
  rw [run_eql_struct, show (10000 : Nat) = 9999 + 1 from rfl, run_equalIn_agg W 9999 97 _ _ hS hp]
  have u9 := Tryz.underlying9
  have a9 := Tryz.isAgg9
  have z9 := Tryz.sizeOf9
  have e1 := eqS_def a a'
  have e2 := eqS_def b b'
  have e3 := eqS_def c c'
  simp only [Program.fieldsOf, Tryz.underlying97]
  rw [eqS_def, eqS_def, eqS_def]
  cases h1 : (a.toList == a'.toList) <;> cases h2 : (b.toList == b'.toList) <;> cases h3 : (c.toList == c'.toList) <;> go_simp

theorem cell_set3 {w : World} {b b' j : Nat} {v0 v1 v2 : Value} {u : Option Value} (hne : b ≠ b') (h : w.cell? ⟨b, j, none⟩ = u) : (((w.setCell ⟨b', 0, none⟩ v0).setCell ⟨b', 1, none⟩ v1).setCell ⟨b', 2, none⟩ v2).cell? ⟨b, j, none⟩ = u := by
  rw [World.cell?_setCell_other _ _ _ _ (fun e => hne (congrArg Addr.block e).symm), World.cell?_setCell_other _ _ _ _ (fun e => hne (congrArg Addr.block e).symm), World.cell?_setCell_other _ _ _ _ (fun e => hne (congrArg Addr.block e).symm)]
  exact h
set_option maxRecDepth 100000 in
set_option maxHeartbeats 1000000 in
theorem normal_any (l d r : ByteArray) (w : World) (hl : l.size ≤ 64) (hd : d.size ≤ 64) :
    Calls Tryz.prog 48 #[.agg #[.string l, .string d, .string r]] w fun e w' => e = .returned (.agg #[.string (lowB l), .string (lowB d), .string r]) ∧ Below w.heap.size w w' := by
  obtain ⟨W0, hW0, hB0, hr1, hr2, hs⟩ := two w 97 97 [.string l, .string d, .string r] [.string ⟨#[]⟩, .string ⟨#[]⟩, .string ⟨#[]⟩]
  have K1 : Hid (Calls Tryz.prog 65 #[.string l] W0.drew fun e w' => e = .returned (.string (lowB l)) ∧ Below W0.drew.heap.size W0.drew w') := low_any l W0.drew hl
  have K2 : Hid (Calls Tryz.prog 65 #[.string l] ((W0.alloc (.cells #[.string ⟨#[]⟩, .string ⟨#[]⟩, .string ⟨#[]⟩] 97)).drew) fun e w' => e = .returned (.string (lowB l)) ∧ Below (W0.alloc (.cells #[.string ⟨#[]⟩, .string ⟨#[]⟩, .string ⟨#[]⟩] 97)).drew.heap.size (W0.alloc (.cells #[.string ⟨#[]⟩, .string ⟨#[]⟩, .string ⟨#[]⟩] 97)).drew w') := low_any l _ hl
  have KD : Hid (∀ W, Calls Tryz.prog 65 #[.string d] W fun e w' => e = .returned (.string (lowB d)) ∧ Below W.heap.size W w') := fun W => low_any d W hd
  have al1 : ∀ W : World, Below W.heap.size W (W.alloc (.cells #[.string ⟨#[]⟩, .string ⟨#[]⟩, .string ⟨#[]⟩] 97)) := fun W => (Below.refl _ _).alloc (Nat.le_refl _) _
  have XLow : Hid (∀ s W, s.size ≤ 64 → Calls Tryz.prog 65 #[.string s] W fun e w' => e = .returned (.string (lowB s)) ∧ Below W.heap.size W w') := fun s W hs => low_any s W hs
  have HC : Hid (∀ W, (binOp .neq 97 (.agg #[.string (lowB l), .string (lowB d), .string r]) (.agg #[.string l, .string d, .string r])).run Tryz.prog W = .ok (.bool (!(eqS (lowB l) l && eqS (lowB d) d && eqS r r))) W) := fun W => neq_jid _ _ _ _ _ _ W
  have HE : Hid (eqS (lowB l) l && eqS (lowB d) d && eqS r r) = Hid (eqS (lowB l) l && eqS (lowB d) d && eqS r r) := rfl
  clear HE
  have hbl : eqS (lowB l) l = true → lowB l = l := eqS_iff.1
  have hbd : eqS (lowB d) d = true → lowB d = d := eqS_iff.1
  have HBL := Lib.hid hbl
  have HBD := Lib.hid hbd
  clear hbl hbd
  have HW := Lib.hid hW0
  have RX : Hid (RowI W0.drew w.heap.size 97 3 [.string l, .string d, .string r]) := hr1
  have RX2 : Hid (RowI W0.drew (w.heap.size + 1) 97 3 [.string ⟨#[]⟩, .string ⟨#[]⟩, .string ⟨#[]⟩]) := hr2
  have BX : Hid (Below w.heap.size w W0.drew) := hB0.drew
  have c0' : W0.drew.cell? ⟨w.heap.size, 0, none⟩ = some (.string l) := RX.out.at 0 _ rfl
  have c1' : W0.drew.cell? ⟨w.heap.size, 1, none⟩ = some (.string d) := RX.out.at 1 _ rfl
  have c2' : W0.drew.cell? ⟨w.heap.size, 2, none⟩ = some (.string r) := RX.out.at 2 _ rfl
  have c0 : W0.cell? ⟨w.heap.size, 0, none⟩ = some (.string l) := hr1.at 0 _ rfl
  have c1 : W0.cell? ⟨w.heap.size, 1, none⟩ = some (.string d) := hr1.at 1 _ rfl
  have c2 : W0.cell? ⟨w.heap.size, 2, none⟩ = some (.string r) := hr1.at 2 _ rfl
  have mixed : Tryz.prog.follows .mixedOrders = true := by kernel_rfl
  have B2 : Hid (Below w.heap.size w (W0.alloc (.cells #[.string ⟨#[]⟩, .string ⟨#[]⟩, .string ⟨#[]⟩] 97)).drew) := BX.out.alloc BX.out.size _
  have RXa : Hid (RowI (W0.alloc (.cells #[.string ⟨#[]⟩, .string ⟨#[]⟩, .string ⟨#[]⟩] 97)).drew w.heap.size 97 3 [.string l, .string d, .string r]) := RX.out.below (al1 W0.drew)
  have ca0 : (W0.alloc (.cells #[.string ⟨#[]⟩, .string ⟨#[]⟩, .string ⟨#[]⟩] 97)).drew.cell? ⟨w.heap.size, 0, none⟩ = some (.string l) := RXa.out.at 0 _ rfl
  have ca1 : (W0.alloc (.cells #[.string ⟨#[]⟩, .string ⟨#[]⟩, .string ⟨#[]⟩] 97)).drew.cell? ⟨w.heap.size, 1, none⟩ = some (.string d) := RXa.out.at 1 _ rfl
  have ca2 : (W0.alloc (.cells #[.string ⟨#[]⟩, .string ⟨#[]⟩, .string ⟨#[]⟩] 97)).drew.cell? ⟨w.heap.size, 2, none⟩ = some (.string r) := RXa.out.at 2 _ rfl
  have RX2a : Hid (RowI (W0.alloc (.cells #[.string ⟨#[]⟩, .string ⟨#[]⟩, .string ⟨#[]⟩] 97)).drew (w.heap.size + 1) 97 3 [.string ⟨#[]⟩, .string ⟨#[]⟩, .string ⟨#[]⟩]) := RX2.out.below (al1 W0.drew)
  have N2 : Hid (RowI (W0.alloc (.cells #[.string ⟨#[]⟩, .string ⟨#[]⟩, .string ⟨#[]⟩] 97)).drew W0.heap.size 97 3 [.string ⟨#[]⟩, .string ⟨#[]⟩, .string ⟨#[]⟩]) := RowI.new W0.drew 97 [.string ⟨#[]⟩, .string ⟨#[]⟩, .string ⟨#[]⟩] []
  have hlt9 : w.heap.size + 1 ≠ W0.heap.size := by omega
  have hlt0 : w.heap.size ≠ W0.heap.size := by omega
  clear hW0 hB0 hr1 hr2 hs XLow
  have Al := Lib.hid al1
  have Al' : Hid (∀ (W : World) (o : Obj), Below W.heap.size W (W.alloc o)) := fun W o => (Below.refl _ _).alloc (Nat.le_refl _) _
  clear al1
  go_enter Tryz.func48, Tryz.ntmps48
  go_upto_region 1 with fail
  rw [HW.out]
  go_cut [3] (fun s wx => ∃ b : Nat, s = .pointer (some ⟨b, 0, none⟩) ∧ Hid (RowI wx b 97 3 [.string (lowB l), .string (lowB d), .string r]) ∧ Hid (RowI wx w.heap.size 97 3 [.string l, .string d, .string r]) ∧ Hid (RowI wx (w.heap.size + 1) 97 3 [.string ⟨#[]⟩, .string ⟨#[]⟩, .string ⟨#[]⟩]) ∧ Hid (Below w.heap.size w wx))
  case first =>
    go_region_held3 (fun W => W.cell? ⟨w.heap.size, 0, none⟩ = some (.string l) ∧ W.cell? ⟨w.heap.size, 1, none⟩ = some (.string d) ∧ W.cell? ⟨w.heap.size, 2, none⟩ = some (.string r)) (first | (with_reducible refine ⟨?_, ?_, ?_⟩ <;> assumption) | ((with_reducible refine ⟨Lib.cell?_alloc_some _ ?_, Lib.cell?_alloc_some _ ?_, Lib.cell?_alloc_some _ ?_⟩) <;> assumption) | ((with_reducible refine ⟨cell_set3 ?_ ?_, cell_set3 ?_ ?_, cell_set3 ?_ ?_⟩) <;> assumption)) (first
      | (go_at_call 65; (with_reducible refine K1.out.mono ?_); rintro e wA ⟨rfl, hA⟩; have BA := Lib.hid (BX.out.trans (hA.mono BX.out.size)); have RA := Lib.hid (RX.out.below hA); have QA := Lib.hid (RX2.out.below hA); have cA0 := RA.out.at 0 _ rfl; have cA1 := RA.out.at 1 _ rfl; have cA2 := RA.out.at 2 _ rfl; have nA : w.heap.size ≠ wA.heap.size := Nat.ne_of_lt RA.out.lt; have NA := Lib.hid RA.out)
      | (go_at_call 65; (with_reducible refine K2.out.mono ?_); rintro e wA ⟨rfl, hA⟩; have BA := Lib.hid (B2.out.trans (hA.mono B2.out.size)); have RA := Lib.hid (RXa.out.below hA); have QA := Lib.hid (RX2a.out.below hA); have cA0 := RA.out.at 0 _ rfl; have cA1 := RA.out.at 1 _ rfl; have cA2 := RA.out.at 2 _ rfl; have nA : w.heap.size ≠ wA.heap.size := Nat.ne_of_lt RA.out.lt; have NA := Lib.hid (N2.out.below hA))
      | (go_at_call 65; (with_reducible refine (KD.out wA).mono ?_); rintro e wC ⟨rfl, hC⟩; have BC := Lib.hid (BA.out.trans (hC.mono BA.out.size)); have RC := Lib.hid (RA.out.below hC); have QC := Lib.hid (QA.out.below hC); have cC0 := RC.out.at 0 _ rfl; have cC1 := RC.out.at 1 _ rfl; have cC2 := RC.out.at 2 _ rfl; have nC : w.heap.size ≠ wC.heap.size := Nat.ne_of_lt RC.out.lt; have NC := Lib.hid (NA.out.below hC); have fC := fun j => NC.out.frozen j; have pC0 := NC.out.at 0 _ rfl; have pC1 := NC.out.at 1 _ rfl; have pC2 := NC.out.at 2 _ rfl)
      | (go_at_call 65; (with_reducible refine (KD.out (wA.alloc (.cells #[.string ⟨#[]⟩, .string ⟨#[]⟩, .string ⟨#[]⟩] 97))).mono ?_); rintro e wD ⟨rfl, hD⟩; have BD := Lib.hid ((BA.out.alloc BA.out.size (.cells #[.string ⟨#[]⟩, .string ⟨#[]⟩, .string ⟨#[]⟩] 97)).trans (hD.mono (BA.out.alloc BA.out.size (.cells #[.string ⟨#[]⟩, .string ⟨#[]⟩, .string ⟨#[]⟩] 97)).size)); have RD := Lib.hid ((RA.out.below (Al.out wA)).below hD); have QD := Lib.hid ((QA.out.below (Al.out wA)).below hD); have cD0 := RD.out.at 0 _ rfl; have cD1 := RD.out.at 1 _ rfl; have cD2 := RD.out.at 2 _ rfl; have nD : w.heap.size ≠ wD.heap.size := Nat.ne_of_lt RD.out.lt; have ND := Lib.hid ((RowI.new wA 97 [.string ⟨#[]⟩, .string ⟨#[]⟩, .string ⟨#[]⟩] []).below hD); have fD := fun j => ND.out.frozen j; have pD0 := ND.out.at 0 _ rfl; have pD1 := ND.out.at 1 _ rfl; have pD2 := ND.out.at 2 _ rfl))
    all_goals go_wp2_with fail
    all_goals go_meet
    · refine ⟨wC.heap.size, rfl, (show Hid _ from RowI.new wC 97 [.string (lowB l), .string (lowB d), .string r] []), (show Hid _ from RC.out.below (Al'.out wC _)), (show Hid _ from QC.out.below (Al'.out wC _)), (show Hid _ from BC.out.alloc BC.out.size _)⟩
    · have leD : w.heap.size ≤ wA.heap.size := BA.out.size
      have nnD : w.heap.size ≠ wA.heap.size := Nat.ne_of_lt RA.out.lt
      have qD : w.heap.size + 1 ≠ wA.heap.size := Nat.ne_of_lt QA.out.lt
      have s1 := ND.out.set 0 (by simp) (.string (lowB l))
      have s2 := s1.set 1 (by simp) (.string (lowB d))
      have s3 := s2.set 2 (by simp) (.string r)
      refine ⟨wA.heap.size, rfl, (show Hid _ from s3), (show Hid _ from ?_), (show Hid _ from ?_), (show Hid _ from ?_)⟩
      · exact RD.out.kept ((Below.heap_setCell _ _ _ _ nnD).trans ((Below.heap_setCell _ _ _ _ nnD).trans (Below.heap_setCell _ _ _ _ nnD)))
      · exact QD.out.kept ((Below.heap_setCell _ _ _ _ (qD)).trans ((Below.heap_setCell _ _ _ _ (qD)).trans (Below.heap_setCell _ _ _ _ (qD))))
      · exact ((BD.out.setCell (leD) _).setCell (leD) _).setCell (leD) _
    · have leE : w.heap.size ≤ W0.heap.size := BX.out.size
      have nnE : w.heap.size ≠ W0.heap.size := hlt0
      have qE : w.heap.size + 1 ≠ W0.heap.size := hlt9
      have s1 := NC.out.set 0 (by simp) (.string (lowB l))
      have s2 := s1.set 1 (by simp) (.string (lowB d))
      have s3 := s2.set 2 (by simp) (.string r)
      refine ⟨W0.heap.size, rfl, (show Hid _ from s3), (show Hid _ from ?_), (show Hid _ from ?_), (show Hid _ from ?_)⟩
      · exact RC.out.kept ((Below.heap_setCell _ _ _ _ nnE).trans ((Below.heap_setCell _ _ _ _ nnE).trans (Below.heap_setCell _ _ _ _ nnE)))
      · exact QC.out.kept ((Below.heap_setCell _ _ _ _ (qE)).trans ((Below.heap_setCell _ _ _ _ (qE)).trans (Below.heap_setCell _ _ _ _ (qE))))
      · exact ((BC.out.setCell (leE) _).setCell (leE) _).setCell (leE) _
  case rest =>
    obtain ⟨b, rfl, hN, hR, hR2, hB⟩ := hcut
    have z0 := hN.out.at 0 _ rfl
    have z1 := hN.out.at 1 _ rfl
    have z2 := hN.out.at 2 _ rfl
    have y0 := hR.out.at 0 _ rfl
    have y1 := hR.out.at 1 _ rfl
    have y2 := hR.out.at 2 _ rfl
    have hc := HC.out
    have R2 := hR2.out
    have af0 : (wc).frozen? ⟨w.heap.size + 1, 0, none⟩ = false := (R2).frozen 0
    have ac0 := (R2).at 0 _ rfl
    have ar0 := (R2).set 0 (by first | decide | simp) (.string (lowB l))
    have ag0 := (ar0).at 0 _ rfl
    have af1 : ((wc).setCell ⟨w.heap.size + 1, 0, none⟩ (.string (lowB l))).frozen? ⟨w.heap.size + 1, 1, none⟩ = false := (ar0).frozen 1
    have ac1 := (ar0).at 1 _ rfl
    have ar1 := (ar0).set 1 (by first | decide | simp) (.string (lowB d))
    have ag1 := (ar1).at 1 _ rfl
    have af2 : (((wc).setCell ⟨w.heap.size + 1, 0, none⟩ (.string (lowB l))).setCell ⟨w.heap.size + 1, 1, none⟩ (.string (lowB d))).frozen? ⟨w.heap.size + 1, 2, none⟩ = false := (ar1).frozen 2
    have ac2 := (ar1).at 2 _ rfl
    have ar2 := (ar1).set 2 (by first | decide | simp) (.string r)
    have ag2 := (ar2).at 2 _ rfl
    have bf0 : (wc).frozen? ⟨w.heap.size + 1, 0, none⟩ = false := (R2).frozen 0
    have bc0 := (R2).at 0 _ rfl
    have br0 := (R2).set 0 (by first | decide | simp) (.string l)
    have bg0 := (br0).at 0 _ rfl
    have bf1 : ((wc).setCell ⟨w.heap.size + 1, 0, none⟩ (.string l)).frozen? ⟨w.heap.size + 1, 1, none⟩ = false := (br0).frozen 1
    have bc1 := (br0).at 1 _ rfl
    have br1 := (br0).set 1 (by first | decide | simp) (.string d)
    have bg1 := (br1).at 1 _ rfl
    have bf2 : (((wc).setCell ⟨w.heap.size + 1, 0, none⟩ (.string l)).setCell ⟨w.heap.size + 1, 1, none⟩ (.string d)).frozen? ⟨w.heap.size + 1, 2, none⟩ = false := (br1).frozen 2
    have bc2 := (br1).at 2 _ rfl
    have br2 := (br1).set 2 (by first | decide | simp) (.string r)
    have bg2 := (br2).at 2 _ rfl
    clear R2 ar0 ar1 ar2 br0 br1 br2
    have le : w.heap.size ≤ w.heap.size + 1 := Nat.le_succ _
    cases hq : (!(eqS (lowB l) l && eqS (lowB d) d && eqS r r)) with
    | true =>
      rw [hq] at hc
      clear hq
      go_wp2_with fail
      refine bodyPost_ret (by simp [results, Tryz.results48, go_sem, ag0, ag1, ag2]; try rfl) rfl ?_
      exact ⟨rfl, ((hB.out.setCell le _).setCell le _).setCell le _⟩
    | false =>
      rw [hq] at hc
      have hl2 : lowB l = l ∧ lowB d = d := by
        simp only [Bool.not_eq_false', Bool.and_eq_true, eqS_iff] at hq
        exact ⟨hq.1.1, hq.1.2⟩
      have HL2 := Lib.hid hl2
      clear hq hl2
      go_wp2_with fail
      refine bodyPost_ret (by simp [results, Tryz.results48, go_sem, bg0, bg1, bg2]; try rfl) rfl ?_
      exact ⟨by rw [HL2.out.1, HL2.out.2], ((hB.out.setCell le _).setCell le _).setCell le _⟩
end Go.Proofs.YtpjaopcgoaannaaGreatDoor
