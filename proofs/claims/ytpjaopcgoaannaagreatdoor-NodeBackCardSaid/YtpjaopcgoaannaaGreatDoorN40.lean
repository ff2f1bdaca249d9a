/- Parameters of structs and rows of structs: what they hold. -/
import Derived.Test.YtpjaopcgoaannaaGreatDoorN31
import Derived.WalkKit
import Derived.ProofKit
import Derived.OpenShut
import Derived.ShutString
import Derived.ChangeOld
import Derived.Below
import Derived.SizedLaws
import Derived.Lay
import Derived.LaidOnce
import Derived.Carry
import Derived.Deep.Fields
namespace Go.Proofs.YtpjaopcgoaannaaGreatDoor
open Go.ChangeShapes Go.WideShapes Go.ChangeAt Go.RowKit Go.Deep

theorem u8_rng {a : Int} (h : (Lit.int .u8 a).wf = true) : 0 ≤ a ∧ a ≤ 255 := by
  simp [Lit.wf, IntKind.min, IntKind.max, IntKind.signed, IntKind.bits] at h
  omega
section
variable {H : Type} {enc : TypeId × Value → H} {W : World}

/-- no text and no row in it is greater than may be -/
def Lt (t : TypeId) (d : DataW H) : Prop := ∀ n ∈ d.weights Tryz.prog t, n ≤ reachBytes
theorem mem_all {e : TypeId} {d : DataW H} {n : Nat} (hn : n ∈ d.weights Tryz.prog e) : ∀ {ds : List (DataW H)}, d ∈ ds → n ∈ DataW.weightsAll Tryz.prog e ds
  | d0 :: ds, h => by
    rw [DataW.weightsAll, List.mem_append]
    rcases List.mem_cons.1 h with rfl | h
    · exact .inl hn
    · exact .inr (mem_all hn h)
theorem Lt.each {ts : List TypeId} {ds : List (DataW H)} (h : (DataW.weightsEach Tryz.prog ts ds).all (· ≤ reachBytes) = true) {j : Nat} {t : TypeId} {d : DataW H} (ht : ts[j]? = some t) (hd : ds[j]? = some d) : Lt t d := fun n hn => by
  simpa using List.all_eq_true.1 h _ (DataW.weights_mem_each ht hd n hn)
theorem Lt.sm {t : TypeId} {s : ByteArray} (h : Lt (H := H) t (.lit (.string s.data.toList))) : Sm s := by
  have := h s.data.toList.length (by simp [DataW.weights])
  rw [Array.length_toList] at this
  exact Nat.le_trans this (by decide)
/-- the fields of a struct of one-cell fields, cell by cell -/
theorem agg_cells {fuel : Nat} {t : TypeId} {fs : Array Field} {cs : List Value} {x : DataW H × List MemPlace} (ht : Tryz.prog.underlying t = some (.struct fs)) (hone : oneCellFields Tryz.prog fs = true) (hC : Tryz.prog.cellsOf t = fs.size)
    (h : DataW.trod enc Tryz.prog W 0 (fun _ => true) true fuel t cs = some x) (hz : Lt t x.1) :
    cs.length = fs.size ∧ ∃ n, ∀ (j : Nat) (f : Field) (v : Value), fs[j]? = some f → cs[j]? = some v → ∃ y, DataW.trod enc Tryz.prog W 0 (fun _ => true) true n f.type [v] = some y ∧ Lt f.type y.1 := by
  obtain ⟨ys, n, _, rfl, hl, hyl, hf⟩ := DataW.trod_struct ht h
  rw [hC] at hl
  refine ⟨hl, n, fun j f v hj hv => ?_⟩
  obtain ⟨ho, hk⟩ := hone_of hone j f hj
  have h1 := hf j f hj
  rw [ho, hk] at h1
  have hjl : j < cs.length := (List.getElem?_eq_some_iff.1 hv).1
  have hone' : (cs.drop j).take 1 = [v] := by
    rw [List.drop_eq_getElem_cons hjl, (List.getElem?_eq_some_iff.1 hv).2]
    rfl
  rw [hone'] at h1
  have hjy : j < ys.length := by rw [hyl]; exact (Array.getElem?_eq_some_iff.1 hj).1
  refine ⟨ys[j], h1.trans (List.getElem?_eq_getElem hjy), fun m hm => hz m ?_⟩
  simp only [DataW.weights, ht]
  exact DataW.weights_mem_each (j := j) (t := f.type) (d := ys[j].1) (by simp [hj]) (by simp [hjy]) m hm

theorem cells_k {x : Addr} {k : Nat} {cs : List Value} (h : W.cells? 0 x k = some cs) : cs.length = k ∧ ∀ j, j < k → W.cell? (x.add j) = cs[j]? := by
  obtain ⟨_, hcl, hat⟩ := World.cells?_some h
  exact ⟨hcl, hat⟩

/-- a row of structs: what it holds, told by what one of them holds -/
theorem row_open {α : Type} {encα : α → List Value} {k : Nat} {Q : α → Prop} {T E : TypeId} (hT : Tryz.prog.underlying T = some (.slice E)) (hk : Tryz.prog.cellsOf E = k) (hk0 : 0 < k) (hlen : ∀ x, (encα x).length = k) (x0 : α)
    (dec : ∀ (fuel : Nat) (cs : List Value) (y : DataW H × List MemPlace), cs.length = k → DataW.trod enc Tryz.prog W 0 (fun _ => true) true fuel E cs = some y → Lt E y.1 → ∃ x, cs = encα x ∧ Q x)
    {fuel : Nat} {v : Value} {x : DataW H × List MemPlace} (h : DataW.trod enc Tryz.prog W 0 (fun _ => true) true fuel T [v] = some x) (hz : Lt T x.1) :
    ∃ l : List α, SlE encα k W v l ∧ l.length ≤ maxLen ∧ ∀ x ∈ l, Q x := by
  rcases DataW.trod_slice hT h with ⟨hcs, _⟩ | ⟨a, len, cap, elems, rest, n, rfl, hcs, rfl, _, hl, hm, hel, hat, _, _⟩
  · cases hcs
    exact ⟨[], SlE.nil _, Nat.zero_le _, fun _ h => by cases h⟩
  · cases hcs
    rw [hk] at hat
    have HX : ∀ i, ∃ x : α, i < len → W.cells? 0 (a.add (i * k)) k = some (encα x) ∧ Q x := by
      intro i
      by_cases hi : i < len
      · have hE := hat i hi
        rw [List.getElem?_eq_getElem (by omega)] at hE
        simp only [Option.bind_eq_some_iff] at hE
        obtain ⟨cs1, hc1, hy1⟩ := hE
        obtain ⟨x, rfl, hq⟩ := dec _ _ _ (cells_k hc1).1 hy1 (fun m hm => hz m (by
          simp only [DataW.weights, hT, List.mem_cons, List.mem_append]
          exact .inr (.inl (mem_all hm (List.mem_map.2 ⟨_, List.getElem_mem _, rfl⟩)))))
        exact ⟨x, fun _ => ⟨hc1, hq⟩⟩
      · exact ⟨x0, fun h => absurd h hi⟩
    obtain ⟨f, hf⟩ := Classical.skolem.1 HX
    have hll : ((List.range len).map f).length = len := by simp
    refine ⟨(List.range len).map f, ⟨some a, cap, by rw [hll], by rw [hll]; exact hl, ?_⟩, by rw [hll]; exact Nat.le_trans hl hm, ?_⟩
    · by_cases h0 : len = 0
      · left; subst h0; rfl
      · right
        obtain ⟨blk, off, sp⟩ := a
        have hc := (cells_k (hf 0 (by omega)).1).2 0 hk0
        have hc0 : ∃ u, W.cell? ⟨blk, off, sp⟩ = some u := by
          refine ⟨(encα (f 0))[0]'(by rw [hlen]; exact hk0), ?_⟩
          rw [List.getElem?_eq_getElem (by rw [hlen]; exact hk0)] at hc
          simpa [Addr.add] using hc
        obtain ⟨u, hu⟩ := hc0
        have hs2 : sp = none := by simpa [Addr.add] using World.cell?_spot hu
        subst hs2
        have hadd : ∀ o i, (⟨blk, o, none⟩ : Addr).add i = ⟨blk, o + i, none⟩ := by intro o i; unfold Addr.add; split <;> simp_all
        refine ⟨blk, off, rfl, World.block_lt_of_cell? W _ hu, fun i hi j hj => ?_⟩
        have hi' : i < len := by simpa using hi
        have := (cells_k (hf i hi').1).2 j hj
        rw [hadd, hadd] at this
        rw [this]
        simp
    · intro x hx
      obtain ⟨i, hi, rfl⟩ := List.mem_map.1 hx
      exact (hf i (List.mem_range.1 hi)).2


theorem aff_dec (fuel : Nat) (cs : List Value) (y : DataW H × List MemPlace) (hl : cs.length = 2) (h : DataW.trod enc Tryz.prog W 0 (fun _ => true) true fuel 49 cs = some y) (hz : Lt 49 y.1) : ∃ x : PAff, cs = x.enc ∧ Sm x.jid := by
  obtain ⟨_, n, hf⟩ := agg_cells Tryz.underlying49 (by kernel_rfl) (by kernel_rfl) h hz
  match cs, hl with
  | [c0, c1], _ =>
    obtain ⟨y0, h0, q0⟩ := hf 0 _ c0 rfl rfl
    obtain ⟨y1, h1, q1⟩ := hf 1 _ c1 rfl rfl
    obtain ⟨s0, e0, z0, _⟩ := DataW.trod_string Tryz.underlying9 h0
    obtain ⟨n1, e1, _, _⟩ := DataW.trod_int Tryz.underlying47 h1
    cases e0; cases e1
    exact ⟨⟨s0, n1⟩, rfl, Lt.sm (z0 ▸ q0)⟩
theorem sub_dec (fuel : Nat) (cs : List Value) (y : DataW H × List MemPlace) (hl : cs.length = 3) (h : DataW.trod enc Tryz.prog W 0 (fun _ => true) true fuel 51 cs = some y) (hz : Lt 51 y.1) : ∃ x : PSub, cs = x.enc ∧ Sm x.jid := by
  obtain ⟨_, n, hf⟩ := agg_cells Tryz.underlying51 (by kernel_rfl) (by kernel_rfl) h hz
  match cs, hl with
  | [c0, c1, c2], _ =>
    obtain ⟨y0, h0, q0⟩ := hf 0 _ c0 rfl rfl
    obtain ⟨y1, h1, q1⟩ := hf 1 _ c1 rfl rfl
    obtain ⟨y2, h2, q2⟩ := hf 2 _ c2 rfl rfl
    obtain ⟨s0, e0, z0, _⟩ := DataW.trod_string Tryz.underlying9 h0
    obtain ⟨n1, e1, _⟩ := DataW.trod_bool Tryz.underlying4 h1
    obtain ⟨n2, e2, _, _⟩ := DataW.trod_int Tryz.underlying3 h2
    cases e0; cases e1; cases e2
    exact ⟨⟨s0, n1, n2⟩, rfl, Lt.sm (z0 ▸ q0)⟩
theorem item_dec (fuel : Nat) (cs : List Value) (y : DataW H × List MemPlace) (hl : cs.length = 3) (h : DataW.trod enc Tryz.prog W 0 (fun _ => true) true fuel 53 cs = some y) (hz : Lt 53 y.1) : ∃ x : PItem, cs = x.enc ∧ Sm x.id ∧ Sm x.pub ∧ Sm x.text := by
  obtain ⟨_, n, hf⟩ := agg_cells Tryz.underlying53 (by kernel_rfl) (by kernel_rfl) h hz
  match cs, hl with
  | [c0, c1, c2], _ =>
    obtain ⟨y0, h0, q0⟩ := hf 0 _ c0 rfl rfl
    obtain ⟨y1, h1, q1⟩ := hf 1 _ c1 rfl rfl
    obtain ⟨y2, h2, q2⟩ := hf 2 _ c2 rfl rfl
    obtain ⟨s0, e0, z0, _⟩ := DataW.trod_string Tryz.underlying9 h0
    obtain ⟨s1, e1, z1, _⟩ := DataW.trod_string Tryz.underlying9 h1
    obtain ⟨s2, e2, z2, _⟩ := DataW.trod_string Tryz.underlying9 h2
    cases e0; cases e1; cases e2
    exact ⟨⟨s0, s1, s2⟩, rfl, Lt.sm (z0 ▸ q0), Lt.sm (z1 ▸ q1), Lt.sm (z2 ▸ q2)⟩

/-- what is known of a node that is given -/
structure SmN (n : PNode) : Prop where
  name : Sm n.name
  parent : Sm n.parent
  aff : ∀ x ∈ n.affs, Sm x.jid
  sub : ∀ x ∈ n.subs, Sm x.jid
  item : ∀ x ∈ n.items, Sm x.id ∧ Sm x.pub ∧ Sm x.text
  acc : 0 ≤ n.access
theorem SmN.few {n : PNode} (h : SmN n) : Bd (fewN n) :=
  ⟨h.name, h.parent, fun x hx => h.aff x (List.mem_of_mem_take hx), fun x hx => h.sub x (List.mem_of_mem_take hx), fun x hx => h.item x (List.mem_of_mem_take hx),
   by show (n.affs.take 20).length ≤ 1000; rw [List.length_take]; omega, by show (n.subs.take 20).length ≤ 1000; rw [List.length_take]; omega, by show (n.items.take 20).length ≤ 1000; rw [List.length_take]; omega⟩

set_option maxRecDepth 100000 in
theorem node_open {r : Reach} {b0 : Nat} {v : Value} {d : DataW H} {p : List MemPlace} (hv : Value.okWide Tryz.prog W r b0 27 v) (h : DataW.Trod enc Tryz.prog W 0 (fun _ => true) true 27 v d p) (hz : Lt 27 d) :
    ∃ n : PNode, NodeV W v n ∧ SmN n := by
  obtain ⟨cs, rfl, hsz⟩ := okWide_struct Tryz.underlying27 hv
  obtain ⟨l⟩ := cs
  obtain ⟨fuel, hf⟩ := h
  obtain ⟨_, n, hf⟩ := agg_cells Tryz.underlying27 (by kernel_rfl) (by kernel_rfl) hf hz
  have hc : Tryz.prog.cellsOf 27 = 8 := by kernel_rfl
  match l, hsz.trans hc with
  | [c0, c1, c2, c3, c4, c5, c6, c7], _ =>
    obtain ⟨y0, h0, q0⟩ := hf 0 _ c0 rfl rfl
    obtain ⟨y1, h1, q1⟩ := hf 1 _ c1 rfl rfl
    obtain ⟨y2, h2, q2⟩ := hf 2 _ c2 rfl rfl
    obtain ⟨y3, h3, q3⟩ := hf 3 _ c3 rfl rfl
    obtain ⟨y4, h4, q4⟩ := hf 4 _ c4 rfl rfl
    obtain ⟨y5, h5, q5⟩ := hf 5 _ c5 rfl rfl
    obtain ⟨y6, h6, q6⟩ := hf 6 _ c6 rfl rfl
    obtain ⟨y7, h7, q7⟩ := hf 7 _ c7 rfl rfl
    obtain ⟨s0, e0, z0, _⟩ := DataW.trod_string Tryz.underlying9 h0
    obtain ⟨n1, e1, _⟩ := DataW.trod_bool Tryz.underlying4 h1
    obtain ⟨n2, e2, _, wf2⟩ := DataW.trod_int Tryz.underlying22 h2
    obtain ⟨n3, e3, _, _⟩ := DataW.trod_int Tryz.underlying3 h3
    obtain ⟨s7, e7, z7, _⟩ := DataW.trod_string Tryz.underlying9 h7
    cases e0; cases e1; cases e2; cases e3; cases e7
    obtain ⟨la, ha, _, qa⟩ := row_open Tryz.underlying23 (by kernel_rfl) (by decide) PAff.enc_len ⟨⟨#[]⟩, 0⟩ aff_dec h4 q4
    obtain ⟨ls, hs, _, qs⟩ := row_open Tryz.underlying24 (by kernel_rfl) (by decide) PSub.enc_len ⟨⟨#[]⟩, false, 0⟩ sub_dec h5 q5
    obtain ⟨li, hi, _, qi⟩ := row_open Tryz.underlying25 (by kernel_rfl) (by decide) PItem.enc_len ⟨⟨#[]⟩, ⟨#[]⟩, ⟨#[]⟩⟩ item_dec h6 q6
    exact ⟨⟨s0, n1, n2, n3, la, ls, li, s7⟩, ⟨c4, c5, c6, rfl, ha, hs, hi⟩, ⟨Lt.sm (z0 ▸ q0), Lt.sm (z7 ▸ q7), qa, qs, qi, (u8_rng wf2).1⟩⟩

theorem PEdit.enc_len (x : PEdit) : x.enc.length = 10 := rfl
theorem byte_dec (fuel : Nat) (cs : List Value) (y : DataW H × List MemPlace) (hl : cs.length = 1) (h : DataW.trod enc Tryz.prog W 0 (fun _ => true) true fuel 5 cs = some y) (_hz : Lt 5 y.1) : ∃ x : UInt8, cs = encB x ∧ True := by
  obtain ⟨n, rfl, _, hw⟩ := DataW.trod_int Tryz.underlying5 h
  refine ⟨UInt8.ofNat n.toNat, ?_, trivial⟩
  simp [Lit.wf, IntKind.min, IntKind.max, IntKind.signed, IntKind.bits] at hw
  unfold encB
  rw [UInt8.toNat_ofNat_of_lt' (by have : n.toNat < 256 := by omega
                                   simpa using this)]
  congr 2
  omega
theorem bytes_open {v : Value} {d : DataW H} {p : List MemPlace} {a : Option Addr} {n0 c0 : Nat} (hv : v = .slice a n0 c0) (h : DataW.Trod enc Tryz.prog W 0 (fun _ => true) true 39 v d p) (hz : Lt 39 d) :
    ∃ l : List UInt8, SlE encB 1 W v l ∧ l.length ≤ maxLen := by
  subst hv
  obtain ⟨fuel, hf⟩ := h
  obtain ⟨l, h1, h2, _⟩ := row_open (encα := encB) (k := 1) (Q := fun _ => True) Tryz.underlying39 (by kernel_rfl) (by decide) (fun _ => rfl) 0 byte_dec hf hz
  exact ⟨l, h1, h2⟩
end
end Go.Proofs.YtpjaopcgoaannaaGreatDoor
