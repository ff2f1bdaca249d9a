/- text.Unescape: what it answers, for every text of at most 2^46 bytes, in whatever order the map is gone through. -/
import Derived.Test.YtkgmpkoamicheaaGreatDoorTx1
import Derived.Test.YtkgmpkoamicheaaGreatDoorCut
import Derived.Test.YtkgmpkoamicheaaGreatDoorBld
namespace Go.Proofs.YtkgmpkoamicheaaGreatDoor
open Go.RowKit
open Go.Instr (findNow)
open Hb

def charOf (l : List UInt8) : Option UInt8 :=
  if l = [97, 109, 112] then some 38 else if l = [108, 116] then some 60 else if l = [103, 116] then some 62 else if l = [97, 112, 111, 115] then some 39 else if l = [113, 117, 111, 116] then some 34 else none

/-- What a text with entities says: n more than its bytes suffice. -/
def unesc : Nat → List UInt8 → Option (List UInt8)
  | 0, _ => none
  | n + 1, l =>
    if 60 ∈ (cutAt 38 l).1 then none
    else if (cutAt 38 l).2.2 = false then some (cutAt 38 l).1
    else if (cutAt 59 (cutAt 38 l).2.1).2.2 = false then none
    else match charOf (cutAt 59 (cutAt 38 l).2.1).1 with
      | none => none
      | some c => (unesc n (cutAt 59 (cutAt 38 l).2.1).2.1).map fun r => (cutAt 38 l).1 ++ c :: r

theorem ents_list : ents.toList = [⟨.int .u8 38, .string ⟨#[97, 109, 112]⟩, 0⟩, ⟨.int .u8 60, .string ⟨#[108, 116]⟩, 1⟩, ⟨.int .u8 62, .string ⟨#[103, 116]⟩, 2⟩, ⟨.int .u8 39, .string ⟨#[97, 112, 111, 115]⟩, 3⟩, ⟨.int .u8 34, .string ⟨#[113, 117, 111, 116]⟩, 4⟩] := rfl

theorem ents_form : ∀ x ∈ ents.toList, ∃ (c : UInt8) (l : List UInt8), x.key = .int .u8 c.toNat ∧ x.val = .string ⟨l.toArray⟩ ∧ charOf l = some c := by
  rw [ents_list]
  intro x hx
  simp only [List.mem_cons, List.not_mem_nil, or_false] at hx
  rcases hx with rfl | rfl | rfl | rfl | rfl
  · exact ⟨38, [97, 109, 112], rfl, rfl, rfl⟩
  · exact ⟨60, [108, 116], rfl, rfl, rfl⟩
  · exact ⟨62, [103, 116], rfl, rfl, rfl⟩
  · exact ⟨39, [97, 112, 111, 115], rfl, rfl, rfl⟩
  · exact ⟨34, [113, 117, 111, 116], rfl, rfl, rfl⟩

theorem ents_of {l : List UInt8} {c : UInt8} (h : charOf l = some c) : ∃ x ∈ ents.toList, x.key = .int .u8 c.toNat ∧ x.val = .string ⟨l.toArray⟩ := by
  rw [ents_list]
  unfold charOf at h
  repeat' split at h
  all_goals first
    | (obtain rfl := Option.some.inj h; subst_vars; simp; done)
    | (simp at h; done)

theorem ents_inj : ∀ x ∈ ents.toList, ∀ y ∈ ents.toList, x.val = y.val → x = y := by
  rw [ents_list]
  intro x hx y hy
  simp only [List.mem_cons, List.not_mem_nil, or_false] at hx hy
  rcases hx with rfl | rfl | rfl | rfl | rfl <;> rcases hy with rfl | rfl | rfl | rfl | rfl <;> simp

theorem ents_born : ∀ x ∈ ents.toList, x.born < 5 := by
  rw [ents_list]
  intro x hx
  simp only [List.mem_cons, List.not_mem_nil, or_false] at hx
  rcases hx with rfl | rfl | rfl | rfl | rfl <;> simp

theorem ents_born_inj : (ents.toList.map (·.born)).Nodup := by rw [ents_list]; decide

/-- The map of names, filled with the entries that were seen. -/
structure NamesInv (es : Array MapEntry) (seen : Array Nat) : Prop where
  keys : ∀ e ∈ es.toList, MapKept.IsKey .string e.key
  mem : ∀ e ∈ es.toList, ∃ x ∈ ents.toList, e.key = x.val ∧ e.val = x.key ∧ seen.contains x.born = true
  all : ∀ x ∈ ents.toList, seen.contains x.born = true → ∃ e ∈ es.toList, e.key = x.val ∧ e.val = x.key

theorem namesInv_start : NamesInv #[] #[] := ⟨by simp, by simp, by simp⟩

theorem namesInv_new {es : Array MapEntry} {seen : Array Nat} (h : NamesInv es seen) {x : MapEntry} (hx : x ∈ ents.toList) (hs : seen.contains x.born = false) (hk : MapKept.IsKey .string x.val) : findNow .string x.val es.toList 0 = some none := by
  rcases MapKept.findNow_spec hk es.toList 0 h.keys with ⟨h1, _⟩ | ⟨j, e, _, h2, h3⟩
  · exact h1
  · obtain ⟨y, hy, e1, _, e3⟩ := h.mem e (List.mem_of_getElem? h2)
    rw [e1] at h3
    obtain rfl := ents_inj y hy x hx h3
    rw [hs] at e3
    cases e3

theorem namesInv_step {es : Array MapEntry} {seen : Array Nat} (h : NamesInv es seen) {x : MapEntry} (hx : x ∈ ents.toList) (hk : MapKept.IsKey .string x.val) (c : Nat) : NamesInv (es.push ⟨x.val, x.key, c⟩) (seen.push x.born) := by
  refine ⟨?_, ?_, ?_⟩
  · intro e he
    simp only [Array.toList_push, List.mem_append, List.mem_singleton] at he
    rcases he with he | rfl
    · exact h.keys e he
    · exact hk
  · intro e he
    simp only [Array.toList_push, List.mem_append, List.mem_singleton] at he
    rcases he with he | rfl
    · obtain ⟨y, hy, e1, e2, e3⟩ := h.mem e he
      exact ⟨y, hy, e1, e2, by simp at e3 ⊢; exact .inl e3⟩
    · exact ⟨x, hx, rfl, rfl, by simp⟩
  · intro y hy hs
    simp only [Array.contains_push, Bool.or_eq_true, beq_iff_eq] at hs
    rcases hs with hs | hs
    · obtain ⟨e, he, e1, e2⟩ := h.all y hy hs
      exact ⟨e, by simp [he], e1, e2⟩
    · have : y = x := by
        have hn := ents_born_inj
        exact born_inj hn hy hx hs
      subst this
      exact ⟨_, by simp; exact .inr rfl, rfl, rfl⟩

/-- When all were seen: what is found at a name. -/
theorem names_none {es : Array MapEntry} {seen : Array Nat} (h : NamesInv es seen) (l : List UInt8) (hc : charOf l = none) : findNow .string (.string ⟨l.toArray⟩) es.toList 0 = some none := by
  rcases MapKept.findNow_spec (d := .string) (k := .string ⟨l.toArray⟩) trivial es.toList 0 h.keys with ⟨h1, _⟩ | ⟨j, e, _, h2, h3⟩
  · exact h1
  · obtain ⟨y, hy, e1, _, _⟩ := h.mem e (List.mem_of_getElem? h2)
    obtain ⟨c, l', _, e5, e6⟩ := ents_form y hy
    rw [e1, e5] at h3
    have : l' = l := by simpa using h3
    subst this
    rw [hc] at e6
    cases e6

theorem names_some {es : Array MapEntry} {seen : Array Nat} (h : NamesInv es seen) (hall : ∀ x ∈ ents.toList, seen.contains x.born = true) (l : List UInt8) {c : UInt8} (hc : charOf l = some c) : ∃ i, findNow .string (.string ⟨l.toArray⟩) es.toList 0 = some (some (i, .int .u8 c.toNat)) := by
  obtain ⟨x, hx, x1, x2⟩ := ents_of hc
  obtain ⟨e0, he0, e01, e02⟩ := h.all x hx (hall x hx)
  rcases MapKept.findNow_spec (d := .string) (k := .string ⟨l.toArray⟩) trivial es.toList 0 h.keys with ⟨_, h1⟩ | ⟨j, e, h1, h2, h3⟩
  · exact absurd (e01.trans x2) (h1 e0 he0)
  · obtain ⟨y, hy, e1, e2, _⟩ := h.mem e (List.mem_of_getElem? h2)
    have : y.val = x.val := by rw [← e1, h3, x2]
    obtain rfl := ents_inj y hy x hx this
    exact ⟨0 + j, h1.trans (by rw [e2, x1])⟩

theorem cutAt_le (c : UInt8) (l : List UInt8) : (cutAt c l).1.length + (cutAt c l).2.1.length ≤ l.length := by
  have := cutAt_len c l
  omega

theorem unesc_fuel : ∀ (n m : Nat) (l : List UInt8), l.length < n → l.length < m → unesc n l = unesc m l
  | 0, _, _, h, _ => by omega
  | _, 0, _, _, h => by omega
  | n + 1, m + 1, l, h1, h2 => by
    unfold unesc
    by_cases a : 60 ∈ (cutAt 38 l).1
    · rw [if_pos a, if_pos a]
    · rw [if_neg a, if_neg a]
      by_cases b : (cutAt 38 l).2.2 = false
      · rw [if_pos b, if_pos b]
      · rw [if_neg b, if_neg b]
        by_cases d : (cutAt 59 (cutAt 38 l).2.1).2.2 = false
        · rw [if_pos d, if_pos d]
        · rw [if_neg d, if_neg d]
          have h3 := cutAt_len 38 l
          have h4 := cutAt_le 59 (cutAt 38 l).2.1
          rw [if_pos (by simpa using b)] at h3
          rw [unesc_fuel n m _ (by omega) (by omega)]

theorem cells_add (acc p : List UInt8) : Lib.byteCells acc ++ Lib.strCells ⟨p.toArray⟩ = Lib.byteCells (acc ++ p) := by
  simp [Lib.byteCells, Lib.strCells]

theorem cells_one (acc : List UInt8) (c : UInt8) : Lib.byteCells acc ++ [.int .u8 c.toNat] = Lib.byteCells (acc ++ [c]) := by
  simp [Lib.byteCells]

def sizeOf : Value → Nat
  | .string s => s.size
  | _ => 0

def Told (o : Option (List UInt8)) : Value := match o with
  | some l => .tuple #[.string ⟨l.toArray⟩, .int .i64 0]
  | none => .tuple #[.string ⟨#[]⟩, .int .i64 3]

theorem zero5 (w : World) : (zeroValue 5).run Tryz.prog w = .ok (.int .u8 0) w := by kernel_rfl

set_option maxRecDepth 20000 in
set_option maxHeartbeats 2000000 in
theorem unescape_any (s : ByteArray) (w : World) (hs : s.size ≤ 70368744177664) :
    Calls Tryz.prog 150 #[.string s] w fun e w' => e = .returned (Told (unesc (s.size + 1) s.data.toList)) ∧ Below w.heap.size w w' := by
  have hmm : ∀ (t : TypeId) (w : World), Sem.run Tryz.prog (Instr.makeMap t none) w = Result.ok (Value.map (some w.heap.size)) (w.alloc (Obj.map ent0 0)) := @run_makeMap Tryz.prog
  go_enter Tryz.func150, Tryz.ntmps150
  go_wp2_with fail
  refine (entities_any _).mono ?_
  rintro e w' ⟨rfl, rfl⟩
  have hb1 : ((w.alloc (Obj.map ent0 0)).alloc (.map ents 5)).heap[w.heap.size + 1]? = some (.map ents 5) := by
    have := (MapKept.heap_alloc (w.alloc (Obj.map ent0 0)) (.map ents 5)).1
    simpa using this
  have hrange := run_range_map ((w.alloc (Obj.map ent0 0)).alloc (.map ents 5)) 293 5 9 (w.heap.size + 1) ents 5 Tryz.underlying293 hb1
  have hstart0 : (((w.alloc (Obj.map ent0 0)).alloc (.map ents 5)).alloc (Obj.mapIter (some (w.heap.size + 1)) 5 #[] 5)).heap[w.heap.size]? = some (.map ent0 0) := by
    rw [Lib.alloc_old _ _ _ (by simp; omega), Lib.alloc_old _ _ _ (by simp)]
    exact heap_alloc_new w _
  have hstart1 : (((w.alloc (Obj.map ent0 0)).alloc (.map ents 5)).alloc (Obj.mapIter (some (w.heap.size + 1)) 5 #[] 5)).heap[w.heap.size + 1]? = some (.map ents 5) := by
    rw [Lib.alloc_old _ _ _ (by simp)]
    exact hb1
  have hstart2 : (((w.alloc (Obj.map ent0 0)).alloc (.map ents 5)).alloc (Obj.mapIter (some (w.heap.size + 1)) 5 #[] 5)).heap[w.heap.size + 2]? = some (.mapIter (some (w.heap.size + 1)) 5 #[] 5) := by
    have := heap_alloc_new ((w.alloc (Obj.map ent0 0)).alloc (.map ents 5)) (Obj.mapIter (some (w.heap.size + 1)) 5 #[] 5)
    simpa using this
  have HR := Lib.hid hstart0
  have HR1 := Lib.hid hstart1
  have HR2 := Lib.hid hstart2
  clear hb1 hstart0 hstart1 hstart2
  go_wp2_with fail
  go_loopw [5] (fun _ wr => ∃ (es : Array MapEntry) (c : Nat) (seen : Array Nat) (c0 : Nat), 5 ≤ c0 ∧ wr.heap[w.heap.size]? = some (.map es c) ∧ wr.heap[w.heap.size + 1]? = some (.map ents 5) ∧
      wr.heap[w.heap.size + 2]? = some (.mapIter (some (w.heap.size + 1)) 5 seen c0) ∧ NamesInv es seen ∧ wr.heap.size = w.heap.size + 3 ∧ Below w.heap.size w wr) (fun _ wr => wr.rangeLeft (w.heap.size + 1) (w.heap.size + 2))
  case atStart => exact ⟨#[], 0, #[], 5, Nat.le_refl _, HR.out, HR1.out, HR2.out, namesInv_start, by simp, (((Below.refl _ _).alloc (Nat.le_refl _) _).alloc (by simp) _).alloc (by simp; omega) _⟩
  case round =>
    obtain ⟨es, c, seen, c0, hc0, hm, he, hi, hinv, hsz, hB⟩ := hrel
    have hleft : wr.rangeLeft (w.heap.size + 1) (w.heap.size + 2) = (leftOf ents seen).size := by simp only [World.rangeLeft, he, hi]
    go_wp2_with (at_next; refine wpList_next_at _ rfl (.tmp 18) rfl (w.heap.size + 2) (w.heap.size + 1) 5 c0 seen ents 5 rfl hi he ents_born hc0 ?_ ?_)
    · intro hall0
      have hall : ∀ x ∈ ents.toList, seen.contains x.born = true := fun x hx => by simpa using hall0 x (by simpa using hx)
      clear hall0
      have hnone := fun l h => names_none hinv l h
      have hsome := fun l c h => names_some hinv hall l (c := c) h
      have HN := Lib.hid hnone
      have HS := Lib.hid hsome
      have hbb := Lib.fresh_isBuilder 124 5 wr
      rw [hsz] at hbb
      have hmb : (wr.alloc (Obj.cells #[.pointer none, .slice none 0 0] 124)).heap[w.heap.size]? = some (.map es c) := (Lib.alloc_old wr _ _ (by omega)).trans hm
      have hBb : Below w.heap.size w (wr.alloc (Obj.cells #[.pointer none, .slice none 0 0] 124)) := hB.alloc (by omega) _
      have G1 := Lib.hid hbb
      have G2 := Lib.hid hmb
      have G3 := Lib.hid hBb
      clear hbb hmb hBb hnone hsome hinv hall hleft hm he hi hB
      go_wp2_with fail
      obtain ⟨wo, rfl⟩ : ∃ wo : World, wo = wr := ⟨_, rfl⟩
      go_loopw [0] (fun v wl => ∃ (cur : ByteArray) (acc : List UInt8), v = .string cur ∧ Lib.IsBuilder 124 5 (w.heap.size + 3) (w.heap.size + 3) (Lib.byteCells acc) wl ∧ wl.heap[w.heap.size]? = some (.map es c) ∧ w.heap.size + 4 ≤ wl.heap.size ∧
          Below w.heap.size w wl ∧ acc.length + cur.size ≤ s.size ∧ Hid (unesc (s.size + 1) s.data.toList = (unesc (cur.size + 1) cur.data.toList).map (acc ++ ·))) (fun v _ => sizeOf v)
      case atStart => exact ⟨s, [], rfl, G1.out, G2.out, by simp [hsz], G3.out, by simp, by show unesc _ _ = _; simp⟩
      case round =>
        obtain ⟨cur, acc, rfl, hbld, hm, hwz, hB, hlen, HU⟩ := hrel
        obtain ⟨p1, p2, p3, hp⟩ : ∃ a b d, cutAt 38 cur.data.toList = (a, b, d) := ⟨_, _, _, rfl⟩
        have hpl := cutAt_len 38 cur.data.toList
        rw [hp, ← Lib.size_eq] at hpl
        simp only at hpl
        have hcut := cut_byte cur 38 wr (by omega)
        rw [hp] at hcut
        have hcon : ∀ W, Calls Tryz.prog 206 #[.string ⟨p1.toArray⟩, .string ⟨#[60]⟩] W fun e w' => e = .returned (.bool (decide (60 ∈ p1))) ∧ w' = W := fun W => contains_byte ⟨p1.toArray⟩ 60 W
        have hp1 : (ByteArray.mk p1.toArray).size = p1.length := by simp [ByteArray.size]
        have C1 := Lib.hid hcut
        have C3 := Lib.hid hp
        have C5 := Lib.hid hp1
        clear hcut hp hp1
        by_cases h60 : 60 ∈ p1
        · have C2 : Hid (∀ W, Calls Tryz.prog 206 #[.string ⟨p1.toArray⟩, .string ⟨#[60]⟩] W fun e w' => e = .returned (.bool true) ∧ w' = W) := by simpa [h60, Hid] using hcon
          have HE : Hid (unesc (cur.size + 1) cur.data.toList = none) := by show _ = _; simp only [unesc, C3.out, if_pos h60]
          clear hcon h60
          go_wp2_with (first | (go_at_call 64; refine C1.out.mono ?_; rintro e w' ⟨rfl, n, rfl⟩) | (go_at_call 206; refine (C2.out _).mono ?_; rintro e w' ⟨rfl, rfl⟩))
          go_ret2
          exact ⟨by rw [HU.out, HE.out]; rfl, bdrewN hB _⟩
        · have C2 : Hid (∀ W, Calls Tryz.prog 206 #[.string ⟨p1.toArray⟩, .string ⟨#[60]⟩] W fun e w' => e = .returned (.bool false) ∧ w' = W) := by simpa [h60, Hid] using hcon
          clear hcon
          have hwr : ∀ n, Calls Tryz.prog 68 #[.pointer (some ⟨w.heap.size + 3, 0, none⟩), .string ⟨p1.toArray⟩] (wr.drewN n) fun e w' => e = .returned (.tuple #[.int .i64 (ByteArray.mk p1.toArray).size, .nilIface]) ∧ (Lib.BuilderAt 124 5 (w.heap.size + 3) (w.heap.size + 3) (.pointer (some ⟨w.heap.size + 3, 0, none⟩)) (Lib.byteCells acc ++ Lib.strCells ⟨p1.toArray⟩) w' ∧ Below (w.heap.size + 3) (wr.drewN n) w') :=
            fun n => writeString_any (w.heap.size + 3) (w.heap.size + 3) (Lib.byteCells acc) ⟨p1.toArray⟩ (wr.drewN n) hbld (by rw [C5.out]; simp [Lib.byteCells]; omega) (by show _ ≤ wr.heap.size; omega)
          have C4 := Lib.hid hwr
          clear hwr
          cases p3 with
          | false =>
            have HE : Hid (unesc (cur.size + 1) cur.data.toList = some p1) := by show _ = _; simp only [unesc, C3.out, if_neg h60, if_true]
            clear h60
            go_wp2_with fail
            refine C1.out.mono ?_
            rintro e w' ⟨rfl, n, rfl⟩
            go_wp2_with fail
            refine (C2.out _).mono ?_
            rintro e w' ⟨rfl, rfl⟩
            go_wp2_with fail
            refine (C4.out n).mono ?_
            rintro e w2 ⟨rfl, hb2, hB2⟩
            go_wp2_with fail
            rw [cells_add] at hb2
            have hB3 : Below w.heap.size w w2 := (bdrewN hB n).trans (hB2.mono (by omega))
            have K1 := Lib.hid hB3
            have K2 := Lib.hid hB2.size
            have hst := Tryz.Builder_String_any (w.heap.size + 3) (w.heap.size + 3) (acc ++ p1) w2 (.inr hb2) (by have := hB2.size; simp at this; omega)
            clear hB3 hB2 hb2
            refine hst.mono ?_
            rintro e w3 ⟨rfl, hB4⟩
            go_wp2_with fail
            go_ret2
            exact ⟨by rw [HU.out, HE.out]; rfl, K1.out.trans (hB4.mono (by omega))⟩
          | true =>
            obtain ⟨q1, q2, q3, hq⟩ : ∃ a b d, cutAt 59 p2 = (a, b, d) := ⟨_, _, _, rfl⟩
            have hql := cutAt_len 59 p2
            rw [hq] at hql
            simp only at hql
            simp only [if_true] at hpl
            have hs2 : (ByteArray.mk p2.toArray).size = p2.length := by simp [ByteArray.size]
            have hcut2 : ∀ W, Calls Tryz.prog 64 #[.string ⟨p2.toArray⟩, .string ⟨#[59]⟩] W fun e w' => e = .returned (.tuple #[.string ⟨q1.toArray⟩, .string ⟨q2.toArray⟩, .bool q3]) ∧ ∃ n, w' = W.drewN n := fun W => by
              have h := cut_byte ⟨p2.toArray⟩ 59 W (by rw [hs2]; omega)
              rw [show (ByteArray.mk p2.toArray).data.toList = p2 from rfl, hq] at h
              exact h
            have C6 := Lib.hid hcut2
            have C7 := Lib.hid hq
            have C8 := Lib.hid hs2
            clear hcut2 hq hs2
            go_wp2_with fail
            refine C1.out.mono ?_
            rintro e w' ⟨rfl, n, rfl⟩
            go_wp2_with fail
            refine (C2.out _).mono ?_
            rintro e w' ⟨rfl, rfl⟩
            go_wp2_with fail
            refine (C4.out n).mono ?_
            rintro e w2 ⟨rfl, hb2, hB2⟩
            have hB3 : Below w.heap.size w w2 := (bdrewN hB n).trans (hB2.mono (by omega))
            have hz2 : w.heap.size + 4 ≤ w2.heap.size := Nat.le_trans hwz (by have := hB2.size; simpa using this)
            have hm2 : w2.heap[w.heap.size]? = some (.map es c) := (hB2.block _ (by omega)).trans hm
            rw [cells_add] at hb2
            have K1 := Lib.hid hB3
            have K2 := Lib.hid hm2
            have K3 := Lib.hid hb2
            clear hB3 hB2 hb2 hm2
            go_wp2_with fail
            refine (C6.out _).mono ?_
            rintro e w' ⟨rfl, n2, rfl⟩
            cases hc : charOf q1 with
            | none =>
              have HE : Hid (unesc (cur.size + 1) cur.data.toList = none) := by
                show _ = _
                simp only [unesc, C3.out, if_neg h60, Bool.true_eq_false, if_false, C7.out, hc]
                split <;> rfl
              have hl := run_lookup_ok Tryz.underlying292 Tryz.underlying9 (key := .string ⟨q1.toArray⟩) trivial (w := w2.drewN n2) K2.out (zero5 _) (HN.out q1 hc)
              clear h60 hc
              cases q3 <;> (go_wp2_with fail; go_ret2; exact ⟨by rw [HU.out, HE.out]; rfl, bdrewN K1.out _⟩)
            | some ch =>
              obtain ⟨i, hi⟩ := HS.out q1 ch hc
              have hl := run_lookup_ok Tryz.underlying292 Tryz.underlying9 (key := .string ⟨q1.toArray⟩) trivial (w := w2.drewN n2) K2.out (zero5 _) hi
              clear hi
              cases q3 with
              | false =>
                have HE : Hid (unesc (cur.size + 1) cur.data.toList = none) := by
                  show _ = _
                  simp only [unesc, C3.out, if_neg h60, Bool.true_eq_false, if_false, C7.out, if_true]
                clear h60 hc
                go_wp2_with fail
                go_ret2
                exact ⟨by rw [HU.out, HE.out]; rfl, bdrewN K1.out _⟩
              | true =>
                have HE : Hid (unesc (cur.size + 1) cur.data.toList = (unesc (q2.length + 1) q2).map fun r => p1 ++ ch :: r) := by
                  show _ = _
                  simp only [unesc, C3.out, if_neg h60, Bool.true_eq_false, if_false, C7.out, hc]
                  rw [unesc_fuel cur.size (q2.length + 1) q2 (by omega) (by omega)]
                  rfl
                clear h60 hc
                have hs3 : (ByteArray.mk q2.toArray).size = q2.length := by simp [ByteArray.size]
                have C9 := Lib.hid hs3
                clear hs3
                go_wp2_with fail
                have hwb := writeByte_any (w.heap.size + 3) (w.heap.size + 3) (Lib.byteCells (acc ++ p1)) ch.toNat (w2.drewN n2) (.inr K3.out) (by simp [Lib.byteCells]; omega) (by show _ ≤ w2.heap.size; omega)
                refine hwb.mono ?_
                rintro e w4 ⟨rfl, hb4, hB4⟩
                rw [cells_one] at hb4
                have hB5 : Below w.heap.size w w4 := (bdrewN K1.out n2).trans (hB4.mono (by omega))
                have hz4 : w.heap.size + 4 ≤ w4.heap.size := Nat.le_trans hz2 hB4.size
                have hm4 : w4.heap[w.heap.size]? = some (.map es c) := (hB4.block _ (by omega)).trans K2.out
                have K5 := Lib.hid hB5
                have K6 := Lib.hid hm4
                have K7 := Lib.hid hb4
                clear hB5 hB4 hb4 hm4
                go_wp2_with fail
                go_roundw
                case rel => exact ⟨⟨q2.toArray⟩, acc ++ p1 ++ [ch], rfl, .inr K7.out, K6.out, hz4, K5.out, by rw [C9.out]; simp; omega, by
                  show _ = _
                  rw [HU.out, HE.out, C9.out, Option.map_map]
                  congr 1
                  funext r
                  simp⟩
                case measure => simp [sizeOf, C9.out]; omega
    · intro x hx0 hns0 w1 hr1 hg1 hs1
      have hx : x ∈ ents.toList := by simpa using hx0
      have hns : seen.contains x.born = false := by simpa using hns0
      clear hx0 hns0
      obtain ⟨ch, l, hk, hv, hch⟩ := ents_form x hx
      have hm1 : w1.heap[w.heap.size]? = some (.map es c) := (hg1.block _ (by omega) (by simp)).trans hm
      have he1 : w1.heap[w.heap.size + 1]? = some (.map ents 5) := (hg1.block _ (by omega) (by simp)).trans he
      have hen := run_entry_at (P := Tryz.prog) w1 (w.heap.size + 2) (w.heap.size + 1) 5 seen ents 5 x hr1 he1 hx ents_born_inj
      have hkey : MapKept.IsKey .string x.val := by rw [hv]; trivial
      have hmu := run_insert_at (P := Tryz.prog) (t := 292) Tryz.underlying292 Tryz.underlying9 (v := x.key) hkey hm1 (namesInv_new hinv hx hns hkey)
      have hinv2 := namesInv_step hinv hx hkey c
      obtain ⟨g1, g2, g3⟩ := grownBy_setBlock hm1 (.map (es.push ⟨x.val, x.key, c⟩) (c + 1))
      generalize ChangeMaps.setBlock w1 w.heap.size (.map (es.push ⟨x.val, x.key, c⟩) (c + 1)) = w2 at hmu g1 g2 g3
      have hr2 : w2.heap[w.heap.size + 2]? = some (.mapIter (some (w.heap.size + 1)) 5 (seen.push x.born) 5) := (g1.block _ (by omega) (by simp)).trans hr1
      have he2 : w2.heap[w.heap.size + 1]? = some (.map ents 5) := (g1.block _ (by omega) (by simp)).trans he1
      have hB2 : Below w.heap.size w w2 := (hB.grown hg1 (by omega) (fun k hk => by cases hk; omega)).grown g1 (by omega) (fun k hk => by cases hk; omega)
      have hcnt : (leftOf ents (seen.push x.born)).size < (leftOf ents seen).size := left_shrinks ents seen x (by unfold leftOf; rw [Array.toList_filter, List.mem_filter]; exact ⟨hx, by rw [hns]; rfl⟩)
      rw [hk, hv] at hen hmu
      rw [hk, hv]
      have F1 := Lib.hid hm1
      have F2 := Lib.hid he1
      have F3 := Lib.hid g2
      have F4 := Lib.hid hr2
      have F5 := Lib.hid he2
      have F6 := Lib.hid hinv2
      have F7 := Lib.hid hr1
      have F8 := Lib.hid hcnt
      have F9 := Lib.hid hleft
      have F10 := Lib.hid hB2
      have F11 := Lib.hid hsz
      have F12 := Lib.hid hs1
      have F13 := Lib.hid g3
      clear hm1 he1 g2 hr2 he2 hinv2 hr1 hcnt hleft hB2 hsz hs1 g3 hm he hi hinv hB hg1 g1 hkey hk hv
      go_wp2
      go_roundw
      case rel => exact ⟨_, _, _, 5, Nat.le_refl _, F3.out, F5.out, F4.out, F6.out, F13.out.trans F12.out, F10.out⟩
      case measure => rw [F9.out]; simp only [World.rangeLeft, F5.out, F4.out]; exact F8.out
end Go.Proofs.YtkgmpkoamicheaaGreatDoor
