/- A set of texts in memory: a map from texts to true. No program in it. -/
import Derived.Test.YtpjaopcgoaannaaGreatDoorN12
namespace Go.Proofs.YtpjaopcgoaannaaGreatDoor
open Go.RowKit
open Hb
open Go.Instr (findNow)

def MapB (w : World) (b : Nat) (l : List ByteArray) : Prop := ∃ es clock, w.heap[b]? = some (.map es clock) ∧ es.toList.map (fun e => e.key) = l.map Value.string ∧ ∀ e ∈ es.toList, e.val = .bool true

theorem MapB.kept {w w' : World} {b : Nat} {l : List ByteArray} (h : MapB w b l) (hb : w'.heap[b]? = w.heap[b]?) : MapB w' b l := by
  obtain ⟨es, clock, h1, h2, h3⟩ := h
  exact ⟨es, clock, hb.trans h1, h2, h3⟩
theorem MapB.lt {w : World} {b : Nat} {l : List ByteArray} (h : MapB w b l) : b < w.heap.size := by
  obtain ⟨es, clock, h1, _⟩ := h
  exact (Array.getElem?_eq_some_iff.1 h1).1
theorem MapB.below {w w' : World} {b : Nat} {l : List ByteArray} (h : MapB w b l) (hb : Below w.heap.size w w') : MapB w' b l := h.kept (hb.block b h.lt)
theorem MapB.new (w : World) : MapB (w.alloc (.map #[] 0)) w.heap.size [] := ⟨#[], 0, (MapKept.heap_alloc w _).1, rfl, by simp⟩
theorem keys_are {es : List MapEntry} {l : List ByteArray} (h : es.map (fun e => e.key) = l.map Value.string) : ∀ x ∈ es, MapKept.IsKey .string x.key := by
  intro x hx
  have : x.key ∈ es.map (fun e => e.key) := List.mem_map.2 ⟨x, hx, rfl⟩
  rw [h] at this
  obtain ⟨s, _, hs⟩ := List.mem_map.1 this
  rw [← hs]
  trivial
theorem MapB.find {w : World} {b : Nat} {l : List ByteArray} (h : MapB w b l) (k : ByteArray) : ∃ es clock r, w.heap[b]? = some (.map es clock) ∧ findNow .string (.string k) es.toList 0 = some r ∧ ((r = none ∧ (l.any fun y => eqS y k) = false) ∨ (∃ i, r = some (i, .bool true) ∧ (l.any fun y => eqS y k) = true)) := by
  obtain ⟨es, clock, h1, h2, h3⟩ := h
  rcases MapKept.findNow_spec (d := .string) (k := .string k) trivial es.toList 0 (keys_are h2) with ⟨e1, e2⟩ | ⟨j, e, e1, e2, e3⟩
  · refine ⟨es, clock, none, h1, e1, .inl ⟨rfl, ?_⟩⟩
    rw [List.any_eq_false]
    intro y hy hq
    rw [eqS_iff] at hq
    have : Value.string y ∈ es.toList.map (fun e => e.key) := by rw [h2]; exact List.mem_map.2 ⟨y, hy, rfl⟩
    obtain ⟨e, he, hk⟩ := List.mem_map.1 this
    exact e2 e he (by rw [hk, hq])
  · have hm : e ∈ es.toList := List.mem_of_getElem? e2
    refine ⟨es, clock, _, h1, e1, .inr ⟨0 + j, by rw [h3 e hm], ?_⟩⟩
    have : e.key ∈ es.toList.map (fun e => e.key) := List.mem_map.2 ⟨e, hm, rfl⟩
    rw [h2] at this
    obtain ⟨y, hy, hk⟩ := List.mem_map.1 this
    rw [List.any_eq_true]
    refine ⟨y, hy, eqS_iff.2 ?_⟩
    rw [e3] at hk
    exact Value.string.inj hk
theorem MapB.look {P : Program} {w : World} {b : Nat} {l : List ByteArray} (h : MapB w b l) {t kt et : TypeId} (ht : P.underlying t = some (.map kt et)) (hd : P.underlying kt = some .string) (hz : ∀ w, (zeroValue et).run P w = .ok (.bool false) w) (k : ByteArray) :
    Sem.run P (Instr.lookup t (.map (some b)) (.string k) false) w = .ok (.bool (l.any fun y => eqS y k)) w := by
  obtain ⟨es, clock, r, h1, h2, h3⟩ := h.find k
  rcases h3 with ⟨rfl, h4⟩ | ⟨i, rfl, h4⟩
  · rw [h4]
    simp [Instr.lookup, run_underlying ht, MapKept.run_getObj_map h1, MapKept.run_checkKey hd (k := .string k) trivial, MapKept.run_findKey hd h2, Result.andThen, hz]
  · rw [h4]
    simp [Instr.lookup, run_underlying ht, MapKept.run_getObj_map h1, MapKept.run_checkKey hd (k := .string k) trivial, MapKept.run_findKey hd h2, Result.andThen]
theorem MapB.put {P : Program} {w : World} {b : Nat} {l : List ByteArray} (h : MapB w b l) {t kt et : TypeId} (ht : P.underlying t = some (.map kt et)) (hd : P.underlying kt = some .string) (k : ByteArray) (hn : (l.any fun y => eqS y k) = false) :
    ∃ w', Sem.run P (Instr.mapUpdate t (.map (some b)) (.string k) (.bool true)) w = .ok () w' ∧ MapB w' b (l ++ [k]) ∧ w.grownBy w' (some b) ∧ w'.heap.size = w.heap.size := by
  obtain ⟨es, clock, r, h1, h2, h3⟩ := h.find k
  rcases h3 with ⟨rfl, h4⟩ | ⟨i, rfl, h4⟩
  · obtain ⟨g1, g2, g3⟩ := grownBy_setBlock h1 (.map (es.push ⟨.string k, .bool true, clock⟩) (clock + 1))
    refine ⟨_, run_insert_at ht hd (key := .string k) trivial h1 h2, ⟨_, _, g2, ?_, ?_⟩, g1, g3⟩
    · obtain ⟨es', clock', h1', h2', h3'⟩ := h
      rw [h1] at h1'
      cases h1'
      simp [h2']
    · obtain ⟨es', clock', h1', h2', h3'⟩ := h
      rw [h1] at h1'
      cases h1'
      intro e he
      simp only [Array.toList_push, List.mem_append, List.mem_singleton] at he
      rcases he with he | rfl
      · exact h3' e he
      · rfl
  · rw [h4] at hn
    cases hn
end Go.Proofs.YtpjaopcgoaannaaGreatDoor
