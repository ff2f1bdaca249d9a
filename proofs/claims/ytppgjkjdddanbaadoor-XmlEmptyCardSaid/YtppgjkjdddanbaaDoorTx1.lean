/- text.entities and text.Escape: what they answer, for every text of at most 2^32 bytes. -/
import Derived.Test.YtppgjkjdddanbaaDoorProg
import Derived.Test.YtppgjkjdddanbaaDoorHb
import Derived.Lib.Hide
namespace Go.Proofs.YtppgjkjdddanbaaDoor
open Go.RowKit
open Go.Instr (findNow)
open Hb

def ent0 : Array MapEntry := #[]
def ent1 : Array MapEntry := ent0.push ⟨.int .u8 38, .string ⟨#[97, 109, 112]⟩, 0⟩
def ent2 : Array MapEntry := ent1.push ⟨.int .u8 60, .string ⟨#[108, 116]⟩, 1⟩
def ent3 : Array MapEntry := ent2.push ⟨.int .u8 62, .string ⟨#[103, 116]⟩, 2⟩
def ent4 : Array MapEntry := ent3.push ⟨.int .u8 39, .string ⟨#[97, 112, 111, 115]⟩, 3⟩
def ents : Array MapEntry := ent4.push ⟨.int .u8 34, .string ⟨#[113, 117, 111, 116]⟩, 4⟩

theorem entities_any (w : World) : Calls Tryd.prog 38 #[] w fun e w' => e = .returned (.map (some w.heap.size)) ∧ w' = w.alloc (.map ents 5) := by
  have hmm : ∀ (t : TypeId) (w : World), Sem.run Tryd.prog (Instr.makeMap t none) w = Result.ok (Value.map (some w.heap.size)) (w.alloc (Obj.map ent0 0)) := @run_makeMap Tryd.prog
  have h1 := run_insert_new (P := Tryd.prog) Tryd.underlying68 Tryd.underlying5 w (es := ent0) (clock := 0) (key := .int .u8 38) (v := .string ⟨#[97, 109, 112]⟩) rfl rfl
  have h2 := run_insert_new (P := Tryd.prog) Tryd.underlying68 Tryd.underlying5 w (es := ent1) (clock := 1) (key := .int .u8 60) (v := .string ⟨#[108, 116]⟩) rfl rfl
  have h3 := run_insert_new (P := Tryd.prog) Tryd.underlying68 Tryd.underlying5 w (es := ent2) (clock := 2) (key := .int .u8 62) (v := .string ⟨#[103, 116]⟩) rfl rfl
  have h4 := run_insert_new (P := Tryd.prog) Tryd.underlying68 Tryd.underlying5 w (es := ent3) (clock := 3) (key := .int .u8 39) (v := .string ⟨#[97, 112, 111, 115]⟩) rfl rfl
  have h5 := run_insert_new (P := Tryd.prog) Tryd.underlying68 Tryd.underlying5 w (es := ent4) (clock := 4) (key := .int .u8 34) (v := .string ⟨#[113, 117, 111, 116]⟩) rfl rfl
  change _ = Result.ok () (w.alloc (.map ent1 1)) at h1
  change _ = Result.ok () (w.alloc (.map ent2 2)) at h2
  change _ = Result.ok () (w.alloc (.map ent3 3)) at h3
  change _ = Result.ok () (w.alloc (.map ent4 4)) at h4
  change _ = Result.ok () (w.alloc (.map ents 5)) at h5
  go_enter Tryd.func38, Tryd.ntmps38
  go_wp2
  go_ret
  exact ⟨rfl, rfl⟩

def nameOf (c : UInt8) : Option (List UInt8) :=
  if c = 38 then some [97, 109, 112] else if c = 60 then some [108, 116] else if c = 62 then some [103, 116] else if c = 39 then some [97, 112, 111, 115] else if c = 34 then some [113, 117, 111, 116] else none
def escB (c : UInt8) : List UInt8 := match nameOf c with | some l => 38 :: (l ++ [59]) | none => [c]
def esc (l : List UInt8) : List UInt8 := l.flatMap escB

theorem u8_toNat_eq (c : UInt8) (n : Nat) (hn : n < 256) : (c = UInt8.ofNat n) ↔ c.toNat = n := by
  constructor
  · intro h; subst h; simpa using Nat.mod_eq_of_lt hn
  · intro h; subst h; simp

theorem findNow_ents (c : UInt8) : findNow (.int .u8) (.int .u8 c.toNat) ents.toList 0 =
    some ((if c = 38 then some (0, [97, 109, 112]) else if c = 60 then some (1, [108, 116]) else if c = 62 then some (2, [103, 116]) else if c = 39 then some (3, [97, 112, 111, 115]) else if c = 34 then some (4, [113, 117, 111, 116]) else none).map fun (p : Nat × List UInt8) => (p.1, Value.string ⟨p.2.toArray⟩)) := by
  have h : ents.toList = [⟨.int .u8 38, .string ⟨#[97, 109, 112]⟩, 0⟩, ⟨.int .u8 60, .string ⟨#[108, 116]⟩, 1⟩, ⟨.int .u8 62, .string ⟨#[103, 116]⟩, 2⟩, ⟨.int .u8 39, .string ⟨#[97, 112, 111, 115]⟩, 3⟩, ⟨.int .u8 34, .string ⟨#[113, 117, 111, 116]⟩, 4⟩] := rfl
  rw [h]
  have e (n : Nat) (hn : n < 256) : ((c.toNat : Int) == ((n : Nat) : Int)) = decide (c = UInt8.ofNat n) := by
    rw [Bool.eq_iff_iff, beq_iff_eq, decide_eq_true_iff, u8_toNat_eq c n hn]
    omega
  have e38 : ((c.toNat : Int) == 38) = decide (c = 38) := e 38 (by omega)
  have e60 : ((c.toNat : Int) == 60) = decide (c = 60) := e 60 (by omega)
  have e62 : ((c.toNat : Int) == 62) = decide (c = 62) := e 62 (by omega)
  have e39 : ((c.toNat : Int) == 39) = decide (c = 39) := e 39 (by omega)
  have e34 : ((c.toNat : Int) == 34) = decide (c = 34) := e 34 (by omega)
  simp only [findNow, Instr.sameNow, if_true]
  rw [e38, e60, e62, e39, e34]
  by_cases h1 : c = 38
  · simp [h1]
  · by_cases h2 : c = 60
    · simp [h2]
    · by_cases h3 : c = 62
      · simp [h3]
      · by_cases h4 : c = 39
        · simp [h4]
        · by_cases h5 : c = 34
          · simp [h5]
          · simp [h1, h2, h3, h4, h5]

theorem look_none {c : UInt8} (h : nameOf c = none) : findNow (.int .u8) (.int .u8 c.toNat) ents.toList 0 = some none := by
  rw [findNow_ents]
  unfold nameOf at h
  repeat' split at h
  all_goals first | (simp [*]; done) | (simp at h; done)

theorem look_some {c : UInt8} {l : List UInt8} (h : nameOf c = some l) : ∃ i, findNow (.int .u8) (.int .u8 c.toNat) ents.toList 0 = some (some (i, .string ⟨l.toArray⟩)) := by
  rw [findNow_ents]
  unfold nameOf at h
  repeat' split at h
  all_goals first | (obtain rfl := Option.some.inj h; exact ⟨_, by simp [*]; rfl⟩) | (simp at h; done)

theorem nameOf_len {c : UInt8} {l : List UInt8} (h : nameOf c = some l) : l.length ≤ 4 := by
  unfold nameOf at h
  repeat' split at h
  all_goals first | (obtain rfl := Option.some.inj h; simp; done) | (simp at h; done)

theorem escB_len (c : UInt8) : (escB c).length ≤ 6 := by
  unfold escB
  split
  · rename_i l h
    have := nameOf_len h
    simp; omega
  · simp

theorem esc_len : ∀ l, (esc l).length ≤ 6 * l.length
  | [] => by simp [esc]
  | c :: l => by
    have := esc_len l
    have := escB_len c
    simp only [esc, List.flatMap_cons, List.length_append, List.length_cons] at *
    omega

theorem take_snoc (s : ByteArray) (k : Nat) (h : k < s.size) : s.data.toList.take (k + 1) = s.data.toList.take k ++ [s[k]] := by
  rw [List.take_succ_eq_append_getElem (by simpa using h)]; rfl

theorem esc_snoc (l : List UInt8) (c : UInt8) : esc (l ++ [c]) = esc l ++ escB c := by simp [esc]

theorem info5 : (Tryd.prog.info? 5).map (fun i => (i.zero, i.size, i.bytes)) = some (some (.int .u8 0), 1, 1) := by kernel_rfl
theorem zero9 (w : World) : (zeroValue 9).run Tryd.prog w = .ok (.string ⟨#[]⟩) w := by kernel_rfl

end Go.Proofs.YtppgjkjdddanbaaDoor
