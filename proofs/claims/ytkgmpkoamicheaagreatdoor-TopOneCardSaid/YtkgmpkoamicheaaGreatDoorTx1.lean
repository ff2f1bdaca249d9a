/- text.entities and text.Escape: what they answer, for every text of at most 2^32 bytes. -/
import Derived.Test.YtkgmpkoamicheaaGreatDoorProg
import Derived.Test.YtkgmpkoamicheaaGreatDoorHb
import Derived.Lib.Hide
namespace Go.Proofs.YtkgmpkoamicheaaGreatDoor
open Go.RowKit
open Go.Instr (findNow)
open Hb

def ent0 : Array MapEntry := #[]
def ent1 : Array MapEntry := ent0.push ⟨.int .u8 38, .string ⟨#[97, 109, 112]⟩, 0⟩
def ent2 : Array MapEntry := ent1.push ⟨.int .u8 60, .string ⟨#[108, 116]⟩, 1⟩
def ent3 : Array MapEntry := ent2.push ⟨.int .u8 62, .string ⟨#[103, 116]⟩, 2⟩
def ent4 : Array MapEntry := ent3.push ⟨.int .u8 39, .string ⟨#[97, 112, 111, 115]⟩, 3⟩
def ents : Array MapEntry := ent4.push ⟨.int .u8 34, .string ⟨#[113, 117, 111, 116]⟩, 4⟩

theorem entities_any (w : World) : Calls Tryz.prog 205 #[] w fun e w' => e = .returned (.map (some w.heap.size)) ∧ w' = w.alloc (.map ents 5) := by
  have hmm : ∀ (t : TypeId) (w : World), Sem.run Tryz.prog (Instr.makeMap t none) w = Result.ok (Value.map (some w.heap.size)) (w.alloc (Obj.map ent0 0)) := @run_makeMap Tryz.prog
  have h1 := run_insert_new (P := Tryz.prog) Tryz.underlying293 Tryz.underlying5 w (es := ent0) (clock := 0) (key := .int .u8 38) (v := .string ⟨#[97, 109, 112]⟩) rfl rfl
  have h2 := run_insert_new (P := Tryz.prog) Tryz.underlying293 Tryz.underlying5 w (es := ent1) (clock := 1) (key := .int .u8 60) (v := .string ⟨#[108, 116]⟩) rfl rfl
  have h3 := run_insert_new (P := Tryz.prog) Tryz.underlying293 Tryz.underlying5 w (es := ent2) (clock := 2) (key := .int .u8 62) (v := .string ⟨#[103, 116]⟩) rfl rfl
  have h4 := run_insert_new (P := Tryz.prog) Tryz.underlying293 Tryz.underlying5 w (es := ent3) (clock := 3) (key := .int .u8 39) (v := .string ⟨#[97, 112, 111, 115]⟩) rfl rfl
  have h5 := run_insert_new (P := Tryz.prog) Tryz.underlying293 Tryz.underlying5 w (es := ent4) (clock := 4) (key := .int .u8 34) (v := .string ⟨#[113, 117, 111, 116]⟩) rfl rfl
  change _ = Result.ok () (w.alloc (.map ent1 1)) at h1
  change _ = Result.ok () (w.alloc (.map ent2 2)) at h2
  change _ = Result.ok () (w.alloc (.map ent3 3)) at h3
  change _ = Result.ok () (w.alloc (.map ent4 4)) at h4
  change _ = Result.ok () (w.alloc (.map ents 5)) at h5
  go_enter Tryz.func205, Tryz.ntmps205
  go_wp2
  go_ret
  exact ⟨rfl, rfl⟩

def nameOf (c : UInt8) : Option (List UInt8) :=
  if c = 38 then some [97, 109, 112] else if c = 60 then some [108, 116] else if c = 62 then some [103, 116] else if c = 39 then some [97, 112, 111, 115] else if c = 34 then some [113, 117, 111, 116] else none
def escB (c : UInt8) : List UInt8 := match nameOf c with | some l => 38 :: (l ++ [59]) | none => [c]
def esc (l : List UInt8) : List UInt8 := l.flatMap escB

theorem u8_toNat_eq (c : UInt8) (n : Nat) (hn : n < 256) : (c = UInt8.ofNat n) ↔ c.toNat = n := by
  constructor
  · intro h; subst h; simpa using Nat.mod_eq_of_lt hn
  · intro h; subst h; simp

theorem findNow_ents (c : UInt8) : findNow (.int .u8) (.int .u8 c.toNat) ents.toList 0 =
    some ((if c = 38 then some (0, [97, 109, 112]) else if c = 60 then some (1, [108, 116]) else if c = 62 then some (2, [103, 116]) else if c = 39 then some (3, [97, 112, 111, 115]) else if c = 34 then some (4, [113, 117, 111, 116]) else none).map fun (p : Nat × List UInt8) => (p.1, Value.string ⟨p.2.toArray⟩)) := by
  have h : ents.toList = [⟨.int .u8 38, .string ⟨#[97, 109, 112]⟩, 0⟩, ⟨.int .u8 60, .string ⟨#[108, 116]⟩, 1⟩, ⟨.int .u8 62, .string ⟨#[103, 116]⟩, 2⟩, ⟨.int .u8 39, .string ⟨#[97, 112, 111, 115]⟩, 3⟩, ⟨.int .u8 34, .string ⟨#[113, 117, 111, 116]⟩, 4⟩] := rfl
  rw [h]
  have e (n : Nat) (hn : n < 256) : ((c.toNat : Int) == ((n : Nat) : Int)) = decide (c = UInt8.ofNat n) := by
    rw [Bool.eq_iff_iff, beq_iff_eq, decide_eq_true_iff, u8_toNat_eq c n hn]
    omega
  have e38 : ((c.toNat : Int) == 38) = decide (c = 38) := e 38 (by omega)
  have e60 : ((c.toNat : Int) == 60) = decide (c = 60) := e 60 (by omega)
  have e62 : ((c.toNat : Int) == 62) = decide (c = 62) := e 62 (by omega)
  have e39 : ((c.toNat : Int) == 39) = decide (c = 39) := e 39 (by omega)
  have e34 : ((c.toNat : Int) == 34) = decide (c = 34) := e 34 (by omega)
  simp only [findNow, Instr.sameNow, if_true]
  rw [e38, e60, e62, e39, e34]
  by_cases h1 : c = 38
  · simp [h1]
  · by_cases h2 : c = 60
    · simp [h2]
    · by_cases h3 : c = 62
      · simp [h3]
      · by_cases h4 : c = 39
        · simp [h4]
        · by_cases h5 : c = 34
          · simp [h5]
          · simp [h1, h2, h3, h4, h5]

theorem look_none {c : UInt8} (h : nameOf c = none) : findNow (.int .u8) (.int .u8 c.toNat) ents.toList 0 = some none := by
  rw [findNow_ents]
  unfold nameOf at h
  repeat' split at h
  all_goals first | (simp [*]; done) | (simp at h; done)

theorem look_some {c : UInt8} {l : List UInt8} (h : nameOf c = some l) : ∃ i, findNow (.int .u8) (.int .u8 c.toNat) ents.toList 0 = some (some (i, .string ⟨l.toArray⟩)) := by
  rw [findNow_ents]
  unfold nameOf at h
  repeat' split at h
  all_goals first | (obtain rfl := Option.some.inj h; exact ⟨_, by simp [*]; rfl⟩) | (simp at h; done)

theorem nameOf_len {c : UInt8} {l : List UInt8} (h : nameOf c = some l) : l.length ≤ 4 := by
  unfold nameOf at h
  repeat' split at h
  all_goals first | (obtain rfl := Option.some.inj h; simp; done) | (simp at h; done)

theorem escB_len (c : UInt8) : (escB c).length ≤ 6 := by
  unfold escB
  split
  · rename_i l h
    have := nameOf_len h
    simp; omega
  · simp

theorem esc_len : ∀ l, (esc l).length ≤ 6 * l.length
  | [] => by simp [esc]
  | c :: l => by
    have := esc_len l
    have := escB_len c
    simp only [esc, List.flatMap_cons, List.length_append, List.length_cons] at *
    omega

theorem take_snoc (s : ByteArray) (k : Nat) (h : k < s.size) : s.data.toList.take (k + 1) = s.data.toList.take k ++ [s[k]] := by
  rw [List.take_succ_eq_append_getElem (by simpa using h)]; rfl

theorem esc_snoc (l : List UInt8) (c : UInt8) : esc (l ++ [c]) = esc l ++ escB c := by simp [esc]

theorem info5 : (Tryz.prog.info? 5).map (fun i => (i.zero, i.size, i.bytes)) = some (some (.int .u8 0), 1, 1) := by kernel_rfl
theorem zero9 (w : World) : (zeroValue 9).run Tryz.prog w = .ok (.string ⟨#[]⟩) w := by kernel_rfl

set_option maxHeartbeats 400000 in
theorem escape_any (s : ByteArray) (w : World) (hs : s.size ≤ 4294967296) :
    Calls Tryz.prog 282 #[.string s] w fun e w' => e = .returned (.string ⟨(esc s.data.toList).toArray⟩) ∧ Below w.heap.size w w' := by
  go_enter Tryz.func282, Tryz.ntmps282
  go_wp2_with fail
  refine (entities_any _).mono ?_
  rintro e w' ⟨rfl, rfl⟩
  go_wp2_with fail
  go_loopw [4, 11] (fun v i wr => ∃ k : Nat, k ≤ s.size ∧ i = .int .i64 k ∧ wr.heap[w.heap.size]? = some (.map ents 5) ∧ w.heap.size + 1 ≤ wr.heap.size ∧
      OwnB wr (w.heap.size + 1) 5 v (esc (s.data.toList.take k)) ∧ Below w.heap.size w wr) (fun _ i _ => s.size - (intOf i).toNat)
  case atStart => exact ⟨0, Nat.zero_le _, rfl, (MapKept.heap_alloc w _).1, by simp, OwnB.nil _ _ _, (Below.refl _ _).alloc (Nat.le_refl _) _⟩
  case round =>
    obtain ⟨k, hk, rfl, hm, hsz, hown, hB⟩ := hrel
    by_cases hlt : k < s.size
    · have hkey : MapKept.IsKey (.int .u8) (Value.int .u8 s[k].toNat) := rfl
      have hlen : (esc (s.data.toList.take k)).length ≤ 6 * k := Nat.le_trans (esc_len _) (Nat.mul_le_mul_left _ (List.length_take_le _ _))
      have HT := Lib.hid (take_snoc s k hlt)
      have HS := Lib.hid (esc_snoc (s.data.toList.take k) s[k])
      cases hn : nameOf s[k] with
      | none =>
        have hl := run_lookup_ok Tryz.underlying293 Tryz.underlying5 hkey hm (zero9 _) (look_none hn)
        have HE : Hid (escB s[k] = [s[k]]) := by unfold escB; rw [hn]; exact rfl
        clear hn
        go_wp2_with (at_builtin; go_loud (refine app_byte (w.heap.size + 1) rfl (.tmp 30) (.tmp 34) 28 5 rfl Tryz.underlying28 info5 _ _ _ s[k] rfl rfl rfl hown hsz (by omega) ?_); intro v1 w1 hown1 hb1)
        go_roundw
        case rel => exact ⟨k + 1, by omega, by go_num, (hb1.block _ (by omega)).trans hm, Nat.le_trans hsz hb1.size, by rw [HT.out, HS.out, HE.out]; exact hown1, hB.trans (hb1.mono (by omega))⟩
        case measure => simp [intOf]; omega
      | some nm =>
        obtain ⟨j, hf⟩ := look_some hn
        have hl := run_lookup_ok Tryz.underlying293 Tryz.underlying5 hkey hm (zero9 _) hf
        have hnl := nameOf_len hn
        have HE : Hid (escB s[k] = 38 :: (nm ++ [59])) := by unfold escB; rw [hn]; exact rfl
        clear hn hf
        have hnl2 : (ByteArray.mk nm.toArray).size = nm.length := by simp [ByteArray.size]
        have HN := Lib.hid hnl2
        clear hnl2
        have hA : (esc (s.data.toList.take k) ++ [38]).length ≤ 6 * k + 1 := by simp; omega
        have hA2 : (esc (s.data.toList.take k) ++ [38] ++ nm).length ≤ 6 * k + 5 := by simp; omega
        go_wp2_with (first
          | (at_builtin; refine app_byte (w.heap.size + 1) rfl (.tmp 23) (.tmp 24) 28 5 rfl Tryz.underlying28 info5 _ _ _ 38 rfl rfl rfl hown hsz (by omega) ?_; intro v1 w1 hown1 hb1; have hz1 := Nat.le_trans hsz hb1.size)
          | (at_builtin; refine app_str (w.heap.size + 1) rfl (.tmp 25) (.tmp 26) 28 9 5 rfl Tryz.underlying28 Tryz.underlying9 info5 _ _ _ rfl rfl hown1 hz1 (by rw [HN.out]; omega) ?_; intro v2 w2 hown2 hb2; replace hown2 : OwnB w2 (w.heap.size + 1) 5 v2 (esc (s.data.toList.take k) ++ [38] ++ nm) := hown2; have hz2 := Nat.le_trans hz1 hb2.size)
          | (at_builtin; refine app_byte (w.heap.size + 1) rfl (.tmp 27) (.tmp 28) 28 5 rfl Tryz.underlying28 info5 _ _ _ 59 rfl rfl rfl hown2 hz2 (by omega) ?_; intro v3 w3 hown3 hb3))
        go_roundw
        case rel =>
          have hbb := (hb1.trans hb2).trans hb3
          exact ⟨k + 1, by omega, by go_num, (hbb.block _ (by omega)).trans hm, Nat.le_trans hsz hbb.size, by rw [HT.out, HS.out, HE.out]; simpa using hown3, hB.trans (hbb.mono (by omega))⟩
        case measure => simp [intOf]; omega
    · have hconv := run_string (P := Tryz.prog) (src := 28) (dst := 9) Tryz.underlying28 Tryz.underlying5 Tryz.underlying9 hown
      go_wp2
      go_ret
      exact ⟨by rw [List.take_of_length_le (by simp; omega)]; rfl, hB⟩
end Go.Proofs.YtkgmpkoamicheaaGreatDoor
