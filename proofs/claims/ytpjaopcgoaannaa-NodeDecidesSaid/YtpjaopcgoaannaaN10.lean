/- slices.DeleteFunc and node.drop at the structs of a node. Written by gen_n10.py. -/
import Derived.Test.YtpjaopcgoaannaaN9
import Derived.Deep.RegionWith
namespace Go.Proofs.Ytpjaopcgoaannaa
open Go.RowKit
open Hb

/-- what a function value answers about one, in every world in which one row alone was written -/
def PredG {α : Type} (enc : α → List Value) (g : Nat) (lb : Array Value) (p : α → Bool) (r : Option Nat) (w : World) : Prop := ∀ x W, w.grownBy W r → Calls Try.prog g (#[.agg (enc x).toArray] ++ lb) W fun e w' => e = .returned (.bool (p x)) ∧ Below W.heap.size W w'
theorem PredG.b {α : Type} {enc : α → List Value} {g : Nat} {lb : Array Value} {p : α → Bool} {r : Option Nat} {w : World} (h : PredG enc g lb p r w) : PredB enc g lb p w := fun x W hW => h x W (gBelow hW r)

/-- the row while it is sifted: ahead of i what is kept of the first j, from j on as it was -/
structure Sift {α : Type} (p : α → Bool) (l cur : List α) (i j : Nat) : Prop where
  len : cur.length = l.length
  lt : i < j
  le : j ≤ l.length
  low : cur.take i = (l.take j).filter fun x => !p x
  high : cur.drop j = l.drop j
theorem eqS_def (a b : ByteArray) : eqS a b = (a.toList == b.toList) := rfl
theorem below_box {w w1 : World} {o : Obj} (h : Below (w.alloc o).drew.heap.size (w.alloc o).drew w1) : Below w.heap.size w w1 := (((Below.refl w.heap.size w).alloc (Nat.le_refl _) o).drew).trans (h.mono (by show _ ≤ (w.alloc o).heap.size; simp))
theorem Sift.start {α : Type} {p : α → Bool} {l : List α} (k : Nat) (hk : k < l.length) (h0 : ∀ j (h : j < k), p (l[j]'(by omega)) = false) (h : p l[k] = true) : Sift p l l k (k + 1) := by
  refine ⟨rfl, by omega, hk, ?_, rfl⟩
  rw [List.take_succ_eq_append_getElem hk, List.filter_append]
  have e1 : (l.take k).filter (fun x => !p x) = l.take k := by
    rw [List.filter_eq_self]
    intro x hx
    obtain ⟨j, hj, rfl⟩ := List.getElem_of_mem hx
    rw [List.length_take] at hj
    rw [List.getElem_take, h0 j (by omega)]
    rfl
  rw [e1]
  simp [h]
theorem Sift.at {α : Type} {p : α → Bool} {l cur : List α} {i j : Nat} (h : Sift p l cur i j) (hj : j < l.length) : cur[j]'(by rw [h.len]; exact hj) = l[j] := by
  have h1 : (cur.drop j)[0]? = (l.drop j)[0]? := by rw [h.high]
  rw [List.getElem?_drop, List.getElem?_drop, Nat.add_zero, List.getElem?_eq_getElem (by rw [h.len]; exact hj), List.getElem?_eq_getElem hj] at h1
  exact Option.some.inj h1
theorem Sift.skip {α : Type} {p : α → Bool} {l cur : List α} {i j : Nat} (h : Sift p l cur i j) (hj : j < l.length) (hp : p l[j] = true) : Sift p l cur i (j + 1) := by
  refine ⟨h.len, by have := h.lt; omega, hj, ?_, ?_⟩
  · rw [List.take_succ_eq_append_getElem hj, List.filter_append, ← h.low]
    simp [hp]
  · rw [← List.drop_drop, ← List.drop_drop, h.high]
theorem Sift.keep {α : Type} {p : α → Bool} {l cur : List α} {i j : Nat} (h : Sift p l cur i j) (hj : j < l.length) (hp : p l[j] = false) : Sift p l (cur.set i l[j]) (i + 1) (j + 1) := by
  have hlt := h.lt
  have hlen := h.len
  refine ⟨by rw [List.length_set]; exact h.len, by omega, hj, ?_, ?_⟩
  · rw [List.take_succ_eq_append_getElem (by rw [List.length_set]; omega), List.take_set_of_le (Nat.le_refl i), List.getElem_set_self, h.low, List.take_succ_eq_append_getElem hj, List.filter_append]
    simp [hp]
  · rw [List.drop_set_of_lt (by omega), ← List.drop_drop, ← List.drop_drop, h.high]
theorem Sift.done {α : Type} {p : α → Bool} {l cur : List α} {i : Nat} (h : Sift p l cur i l.length) : cur.take i = l.filter fun x => !p x := by
  rw [h.low, List.take_length]

theorem zeroAff : ∀ w, (zeroValue 54).run Try.prog w = .ok (.agg #[.string ⟨#[]⟩, .int .u8 0]) w := by
  obtain ⟨i0, hi, h0, h1, h2⟩ := info_parts infoAff
  intro w
  simp [zeroValue, typeInfo, hi, h0]
theorem zeroOneAff (n : Nat) : ∀ v ∈ (Builtin.zeroCells (Value.agg #[.string ⟨#[]⟩, .int .u8 0]).cells n).toList, v.oneCell' = true := by
  intro v hv
  have h0 : 0 < (Value.agg #[.string ⟨#[]⟩, .int .u8 0]).cells.size := by decide
  simp only [Builtin.zeroCells, Array.toList_map, List.mem_map, Array.mem_toList_iff, Array.mem_range] at hv
  obtain ⟨i, hi, rfl⟩ := hv
  have hm := Nat.mod_lt i h0
  generalize i % (Value.agg #[.string ⟨#[]⟩, .int .u8 0]).cells.size = q at hm
  change q < 2 at hm
  rcases q with _ | _ | _ | q <;> first | rfl | omega

set_option maxRecDepth 100000 in
set_option maxHeartbeats 4000000 in
theorem delAff_any (g : Nat) (lb : Array Value) (eg : ∀ args w, (callFunc g args).run Try.prog w = .ok (.enter g args) w) (p : PAff → Bool) (base : Nat) (v : Value) (l : List PAff) (w : World) (hown : OwE PAff.enc 2 w base 54 v l) (hb : base ≤ w.heap.size) (hp : PredG PAff.enc g lb p v.ownBlock w) (hn : l.length ≤ 1000) :
    Calls Try.prog 75 #[v, .func (.func g) #[] lb] w fun e w' => ∃ v', e = .returned v' ∧ OwE PAff.enc 2 w' base 54 v' (l.filter fun x => !p x) ∧ w.grownBy w' v.ownBlock := by
  have hI := idxAff_any g lb eg p v l w (OwE.sl PAff.enc_len hown) hp.b (by omega)
  rcases idxP_cases p l with ⟨h1, _, h2⟩ | ⟨k, hk, h1, _, h2, h3⟩
  · -- none is struck
    have hf : (l.filter fun x => !p x) = l := by
      rw [List.filter_eq_self]
      intro x hx
      obtain ⟨j, hj, rfl⟩ := List.getElem_of_mem hx
      rw [h2 j hj]
      rfl
    rw [hf]
    rw [h1] at hI
    have HI := Lib.hid hI
    have HO := Lib.hid hown
    obtain ⟨A, c, rfl⟩ := row_slice hown
    clear hI hown hp hf h2
    go_enter Try.func75, Try.ntmps75
    go_wp2_with fail
    with_reducible refine HI.out.mono ?_
    rintro e w1 ⟨rfl, hB1⟩
    go_wp2_with fail
    go_returns
    exact ⟨_, rfl, World.ownsRow.kept HO.out (gBelow hB1 none) (by cases A <;> simp [Value.ownBlock]), gBelow hB1 _⟩
  · rw [h1] at hI
    have HS : Hid (Sift p l l k (k + 1)) := Sift.start k hk h3 h2
    rcases hown.2 with ⟨rfl, h0⟩ | ⟨b, c, cur, rfl, e2, e3, e4, e5, e6, e7⟩
    · obtain rfl : l = [] := List.eq_nil_of_length_eq_zero h0
      cases hk
    have HI := Lib.hid hI
    have HR := Lib.hid (RowI.of hown).1
    have HP := Lib.hid hp
    clear hI hown hp h2 h3 h1 e3 e6 e7
    have hne1 : ((k : Int) == -1) = false := beq_eq_false_iff_ne.2 (by omega)
    go_enter Try.func75, Try.ntmps75
    go_wp2_with fail
    with_reducible refine HI.out.mono ?_
    rintro e w1 ⟨rfl, hB1⟩
    go_wp2_with fail
    have hstart : RowI w1 b 54 (c * 2) (l.flatMap PAff.enc) := HR.out.below hB1
    go_loopw [5, 6, 7] (fun a d _ W => ∃ i j : Nat, ∃ cur : List PAff, a = .int .i64 i ∧ d = .int .i64 j ∧ j ≤ l.length ∧ i < j ∧ Hid (Sift p l cur i j) ∧ Hid (RowI W b 54 (c * 2) (cur.flatMap PAff.enc)) ∧ w.grownBy W (some b)) (fun _ d _ _ => l.length - (intOf d).toNat)
    case atStart => exact ⟨k, k + 1, l, rfl, by go_num, by omega, by omega, HS, hstart, gBelow hB1 _⟩
    case round =>
      clear hstart hB1
      obtain ⟨i, j, cur, rfl, rfl, hjl, hij, HC, HW, hg⟩ := hrel
      have hcl : cur.length = l.length := HC.out.len
      have hlenf : (cur.flatMap PAff.enc).length = l.length * 2 := by rw [flat_len PAff.enc 2 PAff.enc_len cur, hcl]
      by_cases hlt : j < l.length
      · obtain ⟨x, hx⟩ : ∃ x, x = l[j] := ⟨_, rfl⟩
        have hxc : cur[j]'(by omega) = x := by rw [HC.out.at hlt, hx]
        have hxy : ∀ o (ho : o < 2) u, x.enc[o]? = some u → wr.cell? ⟨b, j * 2 + o, none⟩ = some u := fun o ho u hu => HW.out.at _ u (by rw [flat_at PAff.enc 2 PAff.enc_len cur j (by omega) o ho, hxc]; exact hu)
        have y0 : wr.cell? ⟨b, j * 2, none⟩ = some (.string x.jid) := hxy 0 (by omega) _ rfl
        have y1 : wr.cell? ⟨b, j * 2 + 1, none⟩ = some (.int .u8 x.role) := hxy 1 (by omega) _ rfl
        have hal : wr.grownBy (wr.alloc (.cells #[.string x.jid, .int .u8 x.role] 54)) (some b) := World.grownBy_alloc _ _ _
        have HPX : Hid (Calls Try.prog g (#[.agg #[.string x.jid, .int .u8 x.role]] ++ lb) (wr.alloc (.cells #[.string x.jid, .int .u8 x.role] 54)) fun e w' => e = .returned (.bool (p x)) ∧ Below (wr.alloc (.cells #[.string x.jid, .int .u8 x.role] 54)).heap.size (wr.alloc (.cells #[.string x.jid, .int .u8 x.role] 54)) w') := HP.out x _ (gTrans hg hal)
        cases hq : p x with
        | true =>
          rw [hq] at HPX
          have HN : Hid (Sift p l cur i (j + 1)) := HC.out.skip hlt (by rw [← hx]; exact hq)
          clear hxy hxc hx hlenf
          go_wp2_with fail
          go_at_fn g
          with_reducible refine HPX.out.mono ?_
          rintro e w2 ⟨rfl, hB2⟩
          go_wp2_with fail
          go_roundw
          case rel => exact ⟨i, j + 1, cur, rfl, by go_num, by omega, by omega, HN, HW.out.kept ((hB2.block b (by have := HW.out.lt; simp; omega)).trans (Below.heap_alloc _ _ _ HW.out.lt)), gTrans hg (gTrans hal (gBelow hB2 _))⟩
          case measure => simp [intOf]; omega
        | false =>
          rw [hq] at HPX
          have HN : Hid (Sift p l (cur.set i x) (i + 1) (j + 1)) := by rw [hx]; exact HC.out.keep hlt (by rw [← hx]; exact hq)
          clear hxy hxc hx
          go_wp2_with fail
          go_at_fn g
          with_reducible refine HPX.out.mono ?_
          rintro e w2 ⟨rfl, hB2⟩
          have HR2 : Hid (RowI w2 b 54 (c * 2) (cur.flatMap PAff.enc)) := HW.out.kept ((hB2.block b (by have := HW.out.lt; simp; omega)).trans (Below.heap_alloc _ _ _ HW.out.lt))
          have hbx := RowI.below (RowI.new wr 54 x.enc []) hB2
          have x0 : w2.cell? ⟨wr.heap.size, 0, none⟩ = some (.string x.jid) := hbx.at 0 _ rfl
          have x1 : w2.cell? ⟨wr.heap.size, 1, none⟩ = some (.int .u8 x.role) := hbx.at 1 _ rfl
          have hin : i * 2 + 2 ≤ (cur.flatMap PAff.enc).length := by rw [hlenf]; omega
          have f0 : (w2).frozen? ⟨b, i * 2, none⟩ = false := (HR2.out).frozen _
          obtain ⟨o0, z0⟩ : ∃ o, (w2).cell? ⟨b, i * 2, none⟩ = some o := ⟨_, (HR2.out).at (i * 2) _ (List.getElem?_eq_getElem (by first | omega | (simp only [List.length_set]; omega)))⟩
          have hR1 := (HR2.out).set (i * 2) (by first | omega | (simp only [List.length_set]; omega)) (.string x.jid)
          have f1 : (w2.setCell ⟨b, i * 2, none⟩ (.string x.jid)).frozen? ⟨b, i * 2 + 1, none⟩ = false := (hR1).frozen _
          obtain ⟨o1, z1⟩ : ∃ o, (w2.setCell ⟨b, i * 2, none⟩ (.string x.jid)).cell? ⟨b, i * 2 + 1, none⟩ = some o := ⟨_, (hR1).at (i * 2 + 1) _ (List.getElem?_eq_getElem (by first | omega | (simp only [List.length_set]; omega)))⟩
          have hR2 := (hR1).set (i * 2 + 1) (by first | omega | (simp only [List.length_set]; omega)) (.int .u8 x.role)
          have hfin := hR2
          rw [show (((cur.flatMap PAff.enc).set (i * 2) (.string x.jid)).set (i * 2 + 1) (.int .u8 x.role)) = setsL (cur.flatMap PAff.enc) (i * 2) x.enc from rfl, flat_set PAff.enc 2 PAff.enc_len cur i (by omega) x] at hfin
          have HF := Lib.hid hfin
          clear hin hlenf hfin hbx hR1 hR2
          go_wp2_with fail
          go_roundw
          case rel => exact ⟨i + 1, j + 1, cur.set i x, by go_num, by go_num, by omega, by omega, HN, HF.out, gTrans hg (gTrans hal (gTrans (gBelow hB2 _) (gTrans (gTrans (gRefl _ _) (grown_set _)) (grown_set _))))⟩
          case measure => simp [intOf]; omega
      · obtain rfl : j = l.length := by omega
        have hD := HC.out.done
        obtain ⟨w2, zs, hc2, hr2, hg2, hs2⟩ := run_clear_k (P := Try.prog) HW.out 24 54 (.agg #[.string ⟨#[]⟩, .int .u8 0]) Try.underlying24 zeroAff (i * 2) (l.length - i) (c - i) (by omega) (by rw [hlenf]; omega) (by show i * 2 + (l.length - i) * 2 ≤ c * 2; omega) (zeroOneAff _)
        rw [flat_take PAff.enc 2 PAff.enc_len cur i (by omega), hD] at hr2
        have hfl : (l.filter fun x => !p x).length = i := by rw [← hD, List.length_take]; omega
        have hr3 := hr2.take (i * 2)
        rw [List.take_left' (by rw [flat_len PAff.enc 2 PAff.enc_len, hfl])] at hr3
        have HF : Hid (OwE PAff.enc 2 w2 base 54 (.slice (some ⟨b, 0, none⟩) i c) (l.filter fun x => !p x)) := by
          unfold OwE
          rw [hfl]
          exact hr3.own e2 (by rw [flat_len PAff.enc 2 PAff.enc_len, hfl]) (by omega) e5
        clear hr2 hr3 hD hfl hlenf hs2
        have hic : ¬ c = i := by omega
        go_wp2_with fail
        go_returns
        exact ⟨_, rfl, HF.out, gTrans hg hg2⟩

/-- the key of one, by a function of the program -/
def OfFAff (f : Nat) : Prop := (∀ args w, (callFunc f args).run Try.prog w = .ok (.enter f args) w) ∧ ∀ (x : PAff) W, Calls Try.prog f #[.agg x.enc.toArray] W fun e w' => e = .returned (.string x.jid) ∧ Below W.heap.size W w'
set_option maxRecDepth 100000 in
set_option maxHeartbeats 4000000 in
theorem dropcAff_any (f : Nat) (hf : OfFAff f) (x : PAff) (who : ByteArray) (b1 b2 : Nat) (w : World) (h1 : w.cell? ⟨b1, 0, none⟩ = some (.func (.func f) #[] #[])) (h2 : w.cell? ⟨b2, 0, none⟩ = some (.string who)) :
    Calls Try.prog 76 #[.agg x.enc.toArray, .pointer (some ⟨b1, 0, none⟩), .pointer (some ⟨b2, 0, none⟩)] w fun e w' => e = .returned (.bool (eqS x.jid who)) ∧ Below w.heap.size w w' := by
  have eg := hf.1
  have hO := fun W => hf.2 x W
  clear hf
  unfold PAff.enc at *
  generalize x.jid = a at *
  generalize x.role = a1 at *
  have HO : Hid _ := hO
  clear hO
  have h1' := Lib.cell?_alloc_some (.cells #[.string a, .int .u8 a1] 54) h1
  have h2' := Lib.cell?_alloc_some (.cells #[.string a, .int .u8 a1] 54) h2
  go_enter Try.func76, Try.ntmps76
  have hlt := World.block_lt_of_cell? _ _ h2'
  have mixed : Try.prog.follows .mixedOrders = true := by kernel_rfl
  go_wp2_with fail
  go_region_with (go_at_fn f; refine (HO.out _).mono ?_; rintro e w1 ⟨rfl, hB1⟩; have h3 := (hB1.cell (p := ⟨b2, 0, none⟩) hlt).trans h2')
  all_goals go_wp2_with fail
  all_goals go_returns
  all_goals exact ⟨by rw [eqS_def]; rfl, below_box hB1⟩

set_option maxRecDepth 100000 in
set_option maxHeartbeats 4000000 in
theorem dropAff_any (f : Nat) (hf : OfFAff f) (base : Nat) (v : Value) (l : List PAff) (who : ByteArray) (w : World) (hown : OwE PAff.enc 2 w base 54 v l) (hb : base ≤ w.heap.size) (hn : l.length ≤ 1000) :
    Calls Try.prog 58 #[v, .string who, .func (.func f) #[] #[]] w fun e w' => ∃ v', e = .returned v' ∧ OwE PAff.enc 2 w' base 54 v' (dropL PAff.jid who l) ∧ w.grownBy w' v.ownBlock := by
  obtain ⟨W0, hW0⟩ : ∃ W0, (w.alloc (.cells #[.string who] 9)).alloc (.cells #[.func (.func f) #[] #[]] 71) = W0 := ⟨_, rfl⟩
  have hbw : Below w.heap.size w W0 := by rw [← hW0]; exact ((Below.refl w.heap.size w).alloc (Nat.le_refl _) _).alloc (by simp) _
  have hs0 : W0.heap.size = w.heap.size + 2 := by rw [← hW0]; simp
  have hx0 : RowI W0 w.heap.size 9 1 [.string who] := by
    have := RowI.new w 9 [.string who] []
    exact this.kept (by rw [← hW0]; exact Below.heap_alloc _ _ _ (by simp))
  have hxo : RowI W0 (w.heap.size + 1) 71 1 [.func (.func f) #[] #[]] := by
    have := RowI.new (w.alloc (.cells #[.string who] 9)) 71 [.func (.func f) #[] #[]] []
    have e : (w.alloc (.cells #[.string who] 9)).heap.size = w.heap.size + 1 := by simp
    rw [e] at this
    exact this.kept (by rw [← hW0]; rfl)
  have hown0 : OwE PAff.enc 2 W0 base 54 v l := World.ownsRow.kept hown (gBelow hbw none) (by cases v.ownBlock <;> simp)
  have hlt : ∀ q, v.ownBlock = some q → q < w.heap.size := fun q hq => (World.ownsRow.lt hown q hq).2
  have hD := delAff_any 76 #[.pointer (some ⟨w.heap.size + 1, 0, none⟩), .pointer (some ⟨w.heap.size, 0, none⟩)] (enters_of Try.func76 (by kernel_rfl) rfl) (fun x => eqS x.jid who) base v l W0 hown0 (by omega)
    (fun x W hW => dropcAff_any f hf x who (w.heap.size + 1) w.heap.size W ((hxo.kept (hW.block _ (by omega) (fun e => by have := hlt _ e.symm; omega))).at 0 _ rfl) ((hx0.kept (hW.block _ (by omega) (fun e => by have := hlt _ e.symm; omega))).at 0 _ rfl)) hn
  have HD := Lib.hid hD
  have HW := Lib.hid hW0
  have HB := Lib.hid hbw
  clear hD hW0 hbw hx0 hxo hown0 hs0
  obtain ⟨A, c, rfl⟩ := row_slice hown
  clear hown
  go_enter Try.func58, Try.ntmps58
  go_wp2_with fail
  rw [HW.out]
  with_reducible refine HD.out.mono ?_
  rintro e w1 ⟨v', rfl, ho, hg⟩
  obtain ⟨A', c', rfl⟩ := row_slice ho
  go_wp2_with fail
  go_returns
  exact ⟨_, rfl, ho, gTrans (gBelow HB.out _) hg⟩

theorem zeroSub : ∀ w, (zeroValue 47).run Try.prog w = .ok (.agg #[.string ⟨#[]⟩, .bool false, .int .i64 0]) w := by
  obtain ⟨i0, hi, h0, h1, h2⟩ := info_parts infoSub
  intro w
  simp [zeroValue, typeInfo, hi, h0]
theorem zeroOneSub (n : Nat) : ∀ v ∈ (Builtin.zeroCells (Value.agg #[.string ⟨#[]⟩, .bool false, .int .i64 0]).cells n).toList, v.oneCell' = true := by
  intro v hv
  have h0 : 0 < (Value.agg #[.string ⟨#[]⟩, .bool false, .int .i64 0]).cells.size := by decide
  simp only [Builtin.zeroCells, Array.toList_map, List.mem_map, Array.mem_toList_iff, Array.mem_range] at hv
  obtain ⟨i, hi, rfl⟩ := hv
  have hm := Nat.mod_lt i h0
  generalize i % (Value.agg #[.string ⟨#[]⟩, .bool false, .int .i64 0]).cells.size = q at hm
  change q < 3 at hm
  rcases q with _ | _ | _ | q <;> first | rfl | omega

set_option maxRecDepth 100000 in
set_option maxHeartbeats 4000000 in
theorem delSub_any (g : Nat) (lb : Array Value) (eg : ∀ args w, (callFunc g args).run Try.prog w = .ok (.enter g args) w) (p : PSub → Bool) (base : Nat) (v : Value) (l : List PSub) (w : World) (hown : OwE PSub.enc 3 w base 47 v l) (hb : base ≤ w.heap.size) (hp : PredG PSub.enc g lb p v.ownBlock w) (hn : l.length ≤ 1000) :
    Calls Try.prog 70 #[v, .func (.func g) #[] lb] w fun e w' => ∃ v', e = .returned v' ∧ OwE PSub.enc 3 w' base 47 v' (l.filter fun x => !p x) ∧ w.grownBy w' v.ownBlock := by
  have hI := idxSub_any g lb eg p v l w (OwE.sl PSub.enc_len hown) hp.b (by omega)
  rcases idxP_cases p l with ⟨h1, _, h2⟩ | ⟨k, hk, h1, _, h2, h3⟩
  · -- none is struck
    have hf : (l.filter fun x => !p x) = l := by
      rw [List.filter_eq_self]
      intro x hx
      obtain ⟨j, hj, rfl⟩ := List.getElem_of_mem hx
      rw [h2 j hj]
      rfl
    rw [hf]
    rw [h1] at hI
    have HI := Lib.hid hI
    have HO := Lib.hid hown
    obtain ⟨A, c, rfl⟩ := row_slice hown
    clear hI hown hp hf h2
    go_enter Try.func70, Try.ntmps70
    go_wp2_with fail
    with_reducible refine HI.out.mono ?_
    rintro e w1 ⟨rfl, hB1⟩
    go_wp2_with fail
    go_returns
    exact ⟨_, rfl, World.ownsRow.kept HO.out (gBelow hB1 none) (by cases A <;> simp [Value.ownBlock]), gBelow hB1 _⟩
  · rw [h1] at hI
    have HS : Hid (Sift p l l k (k + 1)) := Sift.start k hk h3 h2
    rcases hown.2 with ⟨rfl, h0⟩ | ⟨b, c, cur, rfl, e2, e3, e4, e5, e6, e7⟩
    · obtain rfl : l = [] := List.eq_nil_of_length_eq_zero h0
      cases hk
    have HI := Lib.hid hI
    have HR := Lib.hid (RowI.of hown).1
    have HP := Lib.hid hp
    clear hI hown hp h2 h3 h1 e3 e6 e7
    have hne1 : ((k : Int) == -1) = false := beq_eq_false_iff_ne.2 (by omega)
    go_enter Try.func70, Try.ntmps70
    go_wp2_with fail
    with_reducible refine HI.out.mono ?_
    rintro e w1 ⟨rfl, hB1⟩
    go_wp2_with fail
    have hstart : RowI w1 b 47 (c * 3) (l.flatMap PSub.enc) := HR.out.below hB1
    go_loopw [5, 6, 7] (fun a d _ W => ∃ i j : Nat, ∃ cur : List PSub, a = .int .i64 i ∧ d = .int .i64 j ∧ j ≤ l.length ∧ i < j ∧ Hid (Sift p l cur i j) ∧ Hid (RowI W b 47 (c * 3) (cur.flatMap PSub.enc)) ∧ w.grownBy W (some b)) (fun _ d _ _ => l.length - (intOf d).toNat)
    case atStart => exact ⟨k, k + 1, l, rfl, by go_num, by omega, by omega, HS, hstart, gBelow hB1 _⟩
    case round =>
      clear hstart hB1
      obtain ⟨i, j, cur, rfl, rfl, hjl, hij, HC, HW, hg⟩ := hrel
      have hcl : cur.length = l.length := HC.out.len
      have hlenf : (cur.flatMap PSub.enc).length = l.length * 3 := by rw [flat_len PSub.enc 3 PSub.enc_len cur, hcl]
      by_cases hlt : j < l.length
      · obtain ⟨x, hx⟩ : ∃ x, x = l[j] := ⟨_, rfl⟩
        have hxc : cur[j]'(by omega) = x := by rw [HC.out.at hlt, hx]
        have hxy : ∀ o (ho : o < 3) u, x.enc[o]? = some u → wr.cell? ⟨b, j * 3 + o, none⟩ = some u := fun o ho u hu => HW.out.at _ u (by rw [flat_at PSub.enc 3 PSub.enc_len cur j (by omega) o ho, hxc]; exact hu)
        have y0 : wr.cell? ⟨b, j * 3, none⟩ = some (.string x.jid) := hxy 0 (by omega) _ rfl
        have y1 : wr.cell? ⟨b, j * 3 + 1, none⟩ = some (.bool x.pending) := hxy 1 (by omega) _ rfl
        have y2 : wr.cell? ⟨b, j * 3 + 2, none⟩ = some (.int .i64 x.depth) := hxy 2 (by omega) _ rfl
        have hal : wr.grownBy (wr.alloc (.cells #[.string x.jid, .bool x.pending, .int .i64 x.depth] 47)) (some b) := World.grownBy_alloc _ _ _
        have HPX : Hid (Calls Try.prog g (#[.agg #[.string x.jid, .bool x.pending, .int .i64 x.depth]] ++ lb) (wr.alloc (.cells #[.string x.jid, .bool x.pending, .int .i64 x.depth] 47)) fun e w' => e = .returned (.bool (p x)) ∧ Below (wr.alloc (.cells #[.string x.jid, .bool x.pending, .int .i64 x.depth] 47)).heap.size (wr.alloc (.cells #[.string x.jid, .bool x.pending, .int .i64 x.depth] 47)) w') := HP.out x _ (gTrans hg hal)
        cases hq : p x with
        | true =>
          rw [hq] at HPX
          have HN : Hid (Sift p l cur i (j + 1)) := HC.out.skip hlt (by rw [← hx]; exact hq)
          clear hxy hxc hx hlenf
          go_wp2_with fail
          go_at_fn g
          with_reducible refine HPX.out.mono ?_
          rintro e w2 ⟨rfl, hB2⟩
          go_wp2_with fail
          go_roundw
          case rel => exact ⟨i, j + 1, cur, rfl, by go_num, by omega, by omega, HN, HW.out.kept ((hB2.block b (by have := HW.out.lt; simp; omega)).trans (Below.heap_alloc _ _ _ HW.out.lt)), gTrans hg (gTrans hal (gBelow hB2 _))⟩
          case measure => simp [intOf]; omega
        | false =>
          rw [hq] at HPX
          have HN : Hid (Sift p l (cur.set i x) (i + 1) (j + 1)) := by rw [hx]; exact HC.out.keep hlt (by rw [← hx]; exact hq)
          clear hxy hxc hx
          go_wp2_with fail
          go_at_fn g
          with_reducible refine HPX.out.mono ?_
          rintro e w2 ⟨rfl, hB2⟩
          have HR2 : Hid (RowI w2 b 47 (c * 3) (cur.flatMap PSub.enc)) := HW.out.kept ((hB2.block b (by have := HW.out.lt; simp; omega)).trans (Below.heap_alloc _ _ _ HW.out.lt))
          have hbx := RowI.below (RowI.new wr 47 x.enc []) hB2
          have x0 : w2.cell? ⟨wr.heap.size, 0, none⟩ = some (.string x.jid) := hbx.at 0 _ rfl
          have x1 : w2.cell? ⟨wr.heap.size, 1, none⟩ = some (.bool x.pending) := hbx.at 1 _ rfl
          have x2 : w2.cell? ⟨wr.heap.size, 2, none⟩ = some (.int .i64 x.depth) := hbx.at 2 _ rfl
          have hin : i * 3 + 3 ≤ (cur.flatMap PSub.enc).length := by rw [hlenf]; omega
          have f0 : (w2).frozen? ⟨b, i * 3, none⟩ = false := (HR2.out).frozen _
          obtain ⟨o0, z0⟩ : ∃ o, (w2).cell? ⟨b, i * 3, none⟩ = some o := ⟨_, (HR2.out).at (i * 3) _ (List.getElem?_eq_getElem (by first | omega | (simp only [List.length_set]; omega)))⟩
          have hR1 := (HR2.out).set (i * 3) (by first | omega | (simp only [List.length_set]; omega)) (.string x.jid)
          have f1 : (w2.setCell ⟨b, i * 3, none⟩ (.string x.jid)).frozen? ⟨b, i * 3 + 1, none⟩ = false := (hR1).frozen _
          obtain ⟨o1, z1⟩ : ∃ o, (w2.setCell ⟨b, i * 3, none⟩ (.string x.jid)).cell? ⟨b, i * 3 + 1, none⟩ = some o := ⟨_, (hR1).at (i * 3 + 1) _ (List.getElem?_eq_getElem (by first | omega | (simp only [List.length_set]; omega)))⟩
          have hR2 := (hR1).set (i * 3 + 1) (by first | omega | (simp only [List.length_set]; omega)) (.bool x.pending)
          have f2 : ((w2.setCell ⟨b, i * 3, none⟩ (.string x.jid)).setCell ⟨b, i * 3 + 1, none⟩ (.bool x.pending)).frozen? ⟨b, i * 3 + 2, none⟩ = false := (hR2).frozen _
          obtain ⟨o2, z2⟩ : ∃ o, ((w2.setCell ⟨b, i * 3, none⟩ (.string x.jid)).setCell ⟨b, i * 3 + 1, none⟩ (.bool x.pending)).cell? ⟨b, i * 3 + 2, none⟩ = some o := ⟨_, (hR2).at (i * 3 + 2) _ (List.getElem?_eq_getElem (by first | omega | (simp only [List.length_set]; omega)))⟩
          have hR3 := (hR2).set (i * 3 + 2) (by first | omega | (simp only [List.length_set]; omega)) (.int .i64 x.depth)
          have hfin := hR3
          rw [show ((((cur.flatMap PSub.enc).set (i * 3) (.string x.jid)).set (i * 3 + 1) (.bool x.pending)).set (i * 3 + 2) (.int .i64 x.depth)) = setsL (cur.flatMap PSub.enc) (i * 3) x.enc from rfl, flat_set PSub.enc 3 PSub.enc_len cur i (by omega) x] at hfin
          have HF := Lib.hid hfin
          clear hin hlenf hfin hbx hR1 hR2 hR3
          go_wp2_with fail
          go_roundw
          case rel => exact ⟨i + 1, j + 1, cur.set i x, by go_num, by go_num, by omega, by omega, HN, HF.out, gTrans hg (gTrans hal (gTrans (gBelow hB2 _) (gTrans (gTrans (gTrans (gRefl _ _) (grown_set _)) (grown_set _)) (grown_set _))))⟩
          case measure => simp [intOf]; omega
      · obtain rfl : j = l.length := by omega
        have hD := HC.out.done
        obtain ⟨w2, zs, hc2, hr2, hg2, hs2⟩ := run_clear_k (P := Try.prog) HW.out 25 47 (.agg #[.string ⟨#[]⟩, .bool false, .int .i64 0]) Try.underlying25 zeroSub (i * 3) (l.length - i) (c - i) (by omega) (by rw [hlenf]; omega) (by show i * 3 + (l.length - i) * 3 ≤ c * 3; omega) (zeroOneSub _)
        rw [flat_take PSub.enc 3 PSub.enc_len cur i (by omega), hD] at hr2
        have hfl : (l.filter fun x => !p x).length = i := by rw [← hD, List.length_take]; omega
        have hr3 := hr2.take (i * 3)
        rw [List.take_left' (by rw [flat_len PSub.enc 3 PSub.enc_len, hfl])] at hr3
        have HF : Hid (OwE PSub.enc 3 w2 base 47 (.slice (some ⟨b, 0, none⟩) i c) (l.filter fun x => !p x)) := by
          unfold OwE
          rw [hfl]
          exact hr3.own e2 (by rw [flat_len PSub.enc 3 PSub.enc_len, hfl]) (by omega) e5
        clear hr2 hr3 hD hfl hlenf hs2
        have hic : ¬ c = i := by omega
        go_wp2_with fail
        go_returns
        exact ⟨_, rfl, HF.out, gTrans hg hg2⟩

/-- the key of one, by a function of the program -/
def OfFSub (f : Nat) : Prop := (∀ args w, (callFunc f args).run Try.prog w = .ok (.enter f args) w) ∧ ∀ (x : PSub) W, Calls Try.prog f #[.agg x.enc.toArray] W fun e w' => e = .returned (.string x.jid) ∧ Below W.heap.size W w'
set_option maxRecDepth 100000 in
set_option maxHeartbeats 4000000 in
theorem dropcSub_any (f : Nat) (hf : OfFSub f) (x : PSub) (who : ByteArray) (b1 b2 : Nat) (w : World) (h1 : w.cell? ⟨b1, 0, none⟩ = some (.func (.func f) #[] #[])) (h2 : w.cell? ⟨b2, 0, none⟩ = some (.string who)) :
    Calls Try.prog 71 #[.agg x.enc.toArray, .pointer (some ⟨b1, 0, none⟩), .pointer (some ⟨b2, 0, none⟩)] w fun e w' => e = .returned (.bool (eqS x.jid who)) ∧ Below w.heap.size w w' := by
  have eg := hf.1
  have hO := fun W => hf.2 x W
  clear hf
  unfold PSub.enc at *
  generalize x.jid = a at *
  generalize x.pending = a1 at *
  generalize x.depth = a2 at *
  have HO : Hid _ := hO
  clear hO
  have h1' := Lib.cell?_alloc_some (.cells #[.string a, .bool a1, .int .i64 a2] 47) h1
  have h2' := Lib.cell?_alloc_some (.cells #[.string a, .bool a1, .int .i64 a2] 47) h2
  go_enter Try.func71, Try.ntmps71
  have hlt := World.block_lt_of_cell? _ _ h2'
  have mixed : Try.prog.follows .mixedOrders = true := by kernel_rfl
  go_wp2_with fail
  go_region_with (go_at_fn f; refine (HO.out _).mono ?_; rintro e w1 ⟨rfl, hB1⟩; have h3 := (hB1.cell (p := ⟨b2, 0, none⟩) hlt).trans h2')
  all_goals go_wp2_with fail
  all_goals go_returns
  all_goals exact ⟨by rw [eqS_def]; rfl, below_box hB1⟩

set_option maxRecDepth 100000 in
set_option maxHeartbeats 4000000 in
theorem dropSub_any (f : Nat) (hf : OfFSub f) (base : Nat) (v : Value) (l : List PSub) (who : ByteArray) (w : World) (hown : OwE PSub.enc 3 w base 47 v l) (hb : base ≤ w.heap.size) (hn : l.length ≤ 1000) :
    Calls Try.prog 46 #[v, .string who, .func (.func f) #[] #[]] w fun e w' => ∃ v', e = .returned v' ∧ OwE PSub.enc 3 w' base 47 v' (dropL PSub.jid who l) ∧ w.grownBy w' v.ownBlock := by
  obtain ⟨W0, hW0⟩ : ∃ W0, (w.alloc (.cells #[.string who] 9)).alloc (.cells #[.func (.func f) #[] #[]] 73) = W0 := ⟨_, rfl⟩
  have hbw : Below w.heap.size w W0 := by rw [← hW0]; exact ((Below.refl w.heap.size w).alloc (Nat.le_refl _) _).alloc (by simp) _
  have hs0 : W0.heap.size = w.heap.size + 2 := by rw [← hW0]; simp
  have hx0 : RowI W0 w.heap.size 9 1 [.string who] := by
    have := RowI.new w 9 [.string who] []
    exact this.kept (by rw [← hW0]; exact Below.heap_alloc _ _ _ (by simp))
  have hxo : RowI W0 (w.heap.size + 1) 73 1 [.func (.func f) #[] #[]] := by
    have := RowI.new (w.alloc (.cells #[.string who] 9)) 73 [.func (.func f) #[] #[]] []
    have e : (w.alloc (.cells #[.string who] 9)).heap.size = w.heap.size + 1 := by simp
    rw [e] at this
    exact this.kept (by rw [← hW0]; rfl)
  have hown0 : OwE PSub.enc 3 W0 base 47 v l := World.ownsRow.kept hown (gBelow hbw none) (by cases v.ownBlock <;> simp)
  have hlt : ∀ q, v.ownBlock = some q → q < w.heap.size := fun q hq => (World.ownsRow.lt hown q hq).2
  have hD := delSub_any 71 #[.pointer (some ⟨w.heap.size + 1, 0, none⟩), .pointer (some ⟨w.heap.size, 0, none⟩)] (enters_of Try.func71 (by kernel_rfl) rfl) (fun x => eqS x.jid who) base v l W0 hown0 (by omega)
    (fun x W hW => dropcSub_any f hf x who (w.heap.size + 1) w.heap.size W ((hxo.kept (hW.block _ (by omega) (fun e => by have := hlt _ e.symm; omega))).at 0 _ rfl) ((hx0.kept (hW.block _ (by omega) (fun e => by have := hlt _ e.symm; omega))).at 0 _ rfl)) hn
  have HD := Lib.hid hD
  have HW := Lib.hid hW0
  have HB := Lib.hid hbw
  clear hD hW0 hbw hx0 hxo hown0 hs0
  obtain ⟨A, c, rfl⟩ := row_slice hown
  clear hown
  go_enter Try.func46, Try.ntmps46
  go_wp2_with fail
  rw [HW.out]
  with_reducible refine HD.out.mono ?_
  rintro e w1 ⟨v', rfl, ho, hg⟩
  obtain ⟨A', c', rfl⟩ := row_slice ho
  go_wp2_with fail
  go_returns
  exact ⟨_, rfl, ho, gTrans (gBelow HB.out _) hg⟩

theorem zeroItem : ∀ w, (zeroValue 36).run Try.prog w = .ok (.agg #[.string ⟨#[]⟩, .string ⟨#[]⟩, .string ⟨#[]⟩]) w := by
  obtain ⟨i0, hi, h0, h1, h2⟩ := info_parts infoItem
  intro w
  simp [zeroValue, typeInfo, hi, h0]
theorem zeroOneItem (n : Nat) : ∀ v ∈ (Builtin.zeroCells (Value.agg #[.string ⟨#[]⟩, .string ⟨#[]⟩, .string ⟨#[]⟩]).cells n).toList, v.oneCell' = true := by
  intro v hv
  have h0 : 0 < (Value.agg #[.string ⟨#[]⟩, .string ⟨#[]⟩, .string ⟨#[]⟩]).cells.size := by decide
  simp only [Builtin.zeroCells, Array.toList_map, List.mem_map, Array.mem_toList_iff, Array.mem_range] at hv
  obtain ⟨i, hi, rfl⟩ := hv
  have hm := Nat.mod_lt i h0
  generalize i % (Value.agg #[.string ⟨#[]⟩, .string ⟨#[]⟩, .string ⟨#[]⟩]).cells.size = q at hm
  change q < 3 at hm
  rcases q with _ | _ | _ | q <;> first | rfl | omega

set_option maxRecDepth 100000 in
set_option maxHeartbeats 4000000 in
theorem delItem_any (g : Nat) (lb : Array Value) (eg : ∀ args w, (callFunc g args).run Try.prog w = .ok (.enter g args) w) (p : PItem → Bool) (base : Nat) (v : Value) (l : List PItem) (w : World) (hown : OwE PItem.enc 3 w base 36 v l) (hb : base ≤ w.heap.size) (hp : PredG PItem.enc g lb p v.ownBlock w) (hn : l.length ≤ 1000) :
    Calls Try.prog 56 #[v, .func (.func g) #[] lb] w fun e w' => ∃ v', e = .returned v' ∧ OwE PItem.enc 3 w' base 36 v' (l.filter fun x => !p x) ∧ w.grownBy w' v.ownBlock := by
  have hI := idxItem_any g lb eg p v l w (OwE.sl PItem.enc_len hown) hp.b (by omega)
  rcases idxP_cases p l with ⟨h1, _, h2⟩ | ⟨k, hk, h1, _, h2, h3⟩
  · -- none is struck
    have hf : (l.filter fun x => !p x) = l := by
      rw [List.filter_eq_self]
      intro x hx
      obtain ⟨j, hj, rfl⟩ := List.getElem_of_mem hx
      rw [h2 j hj]
      rfl
    rw [hf]
    rw [h1] at hI
    have HI := Lib.hid hI
    have HO := Lib.hid hown
    obtain ⟨A, c, rfl⟩ := row_slice hown
    clear hI hown hp hf h2
    go_enter Try.func56, Try.ntmps56
    go_wp2_with fail
    with_reducible refine HI.out.mono ?_
    rintro e w1 ⟨rfl, hB1⟩
    go_wp2_with fail
    go_returns
    exact ⟨_, rfl, World.ownsRow.kept HO.out (gBelow hB1 none) (by cases A <;> simp [Value.ownBlock]), gBelow hB1 _⟩
  · rw [h1] at hI
    have HS : Hid (Sift p l l k (k + 1)) := Sift.start k hk h3 h2
    rcases hown.2 with ⟨rfl, h0⟩ | ⟨b, c, cur, rfl, e2, e3, e4, e5, e6, e7⟩
    · obtain rfl : l = [] := List.eq_nil_of_length_eq_zero h0
      cases hk
    have HI := Lib.hid hI
    have HR := Lib.hid (RowI.of hown).1
    have HP := Lib.hid hp
    clear hI hown hp h2 h3 h1 e3 e6 e7
    have hne1 : ((k : Int) == -1) = false := beq_eq_false_iff_ne.2 (by omega)
    go_enter Try.func56, Try.ntmps56
    go_wp2_with fail
    with_reducible refine HI.out.mono ?_
    rintro e w1 ⟨rfl, hB1⟩
    go_wp2_with fail
    have hstart : RowI w1 b 36 (c * 3) (l.flatMap PItem.enc) := HR.out.below hB1
    go_loopw [5, 6, 7] (fun a d _ W => ∃ i j : Nat, ∃ cur : List PItem, a = .int .i64 i ∧ d = .int .i64 j ∧ j ≤ l.length ∧ i < j ∧ Hid (Sift p l cur i j) ∧ Hid (RowI W b 36 (c * 3) (cur.flatMap PItem.enc)) ∧ w.grownBy W (some b)) (fun _ d _ _ => l.length - (intOf d).toNat)
    case atStart => exact ⟨k, k + 1, l, rfl, by go_num, by omega, by omega, HS, hstart, gBelow hB1 _⟩
    case round =>
      clear hstart hB1
      obtain ⟨i, j, cur, rfl, rfl, hjl, hij, HC, HW, hg⟩ := hrel
      have hcl : cur.length = l.length := HC.out.len
      have hlenf : (cur.flatMap PItem.enc).length = l.length * 3 := by rw [flat_len PItem.enc 3 PItem.enc_len cur, hcl]
      by_cases hlt : j < l.length
      · obtain ⟨x, hx⟩ : ∃ x, x = l[j] := ⟨_, rfl⟩
        have hxc : cur[j]'(by omega) = x := by rw [HC.out.at hlt, hx]
        have hxy : ∀ o (ho : o < 3) u, x.enc[o]? = some u → wr.cell? ⟨b, j * 3 + o, none⟩ = some u := fun o ho u hu => HW.out.at _ u (by rw [flat_at PItem.enc 3 PItem.enc_len cur j (by omega) o ho, hxc]; exact hu)
        have y0 : wr.cell? ⟨b, j * 3, none⟩ = some (.string x.id) := hxy 0 (by omega) _ rfl
        have y1 : wr.cell? ⟨b, j * 3 + 1, none⟩ = some (.string x.pub) := hxy 1 (by omega) _ rfl
        have y2 : wr.cell? ⟨b, j * 3 + 2, none⟩ = some (.string x.text) := hxy 2 (by omega) _ rfl
        have hal : wr.grownBy (wr.alloc (.cells #[.string x.id, .string x.pub, .string x.text] 36)) (some b) := World.grownBy_alloc _ _ _
        have HPX : Hid (Calls Try.prog g (#[.agg #[.string x.id, .string x.pub, .string x.text]] ++ lb) (wr.alloc (.cells #[.string x.id, .string x.pub, .string x.text] 36)) fun e w' => e = .returned (.bool (p x)) ∧ Below (wr.alloc (.cells #[.string x.id, .string x.pub, .string x.text] 36)).heap.size (wr.alloc (.cells #[.string x.id, .string x.pub, .string x.text] 36)) w') := HP.out x _ (gTrans hg hal)
        cases hq : p x with
        | true =>
          rw [hq] at HPX
          have HN : Hid (Sift p l cur i (j + 1)) := HC.out.skip hlt (by rw [← hx]; exact hq)
          clear hxy hxc hx hlenf
          go_wp2_with fail
          go_at_fn g
          with_reducible refine HPX.out.mono ?_
          rintro e w2 ⟨rfl, hB2⟩
          go_wp2_with fail
          go_roundw
          case rel => exact ⟨i, j + 1, cur, rfl, by go_num, by omega, by omega, HN, HW.out.kept ((hB2.block b (by have := HW.out.lt; simp; omega)).trans (Below.heap_alloc _ _ _ HW.out.lt)), gTrans hg (gTrans hal (gBelow hB2 _))⟩
          case measure => simp [intOf]; omega
        | false =>
          rw [hq] at HPX
          have HN : Hid (Sift p l (cur.set i x) (i + 1) (j + 1)) := by rw [hx]; exact HC.out.keep hlt (by rw [← hx]; exact hq)
          clear hxy hxc hx
          go_wp2_with fail
          go_at_fn g
          with_reducible refine HPX.out.mono ?_
          rintro e w2 ⟨rfl, hB2⟩
          have HR2 : Hid (RowI w2 b 36 (c * 3) (cur.flatMap PItem.enc)) := HW.out.kept ((hB2.block b (by have := HW.out.lt; simp; omega)).trans (Below.heap_alloc _ _ _ HW.out.lt))
          have hbx := RowI.below (RowI.new wr 36 x.enc []) hB2
          have x0 : w2.cell? ⟨wr.heap.size, 0, none⟩ = some (.string x.id) := hbx.at 0 _ rfl
          have x1 : w2.cell? ⟨wr.heap.size, 1, none⟩ = some (.string x.pub) := hbx.at 1 _ rfl
          have x2 : w2.cell? ⟨wr.heap.size, 2, none⟩ = some (.string x.text) := hbx.at 2 _ rfl
          have hin : i * 3 + 3 ≤ (cur.flatMap PItem.enc).length := by rw [hlenf]; omega
          have f0 : (w2).frozen? ⟨b, i * 3, none⟩ = false := (HR2.out).frozen _
          obtain ⟨o0, z0⟩ : ∃ o, (w2).cell? ⟨b, i * 3, none⟩ = some o := ⟨_, (HR2.out).at (i * 3) _ (List.getElem?_eq_getElem (by first | omega | (simp only [List.length_set]; omega)))⟩
          have hR1 := (HR2.out).set (i * 3) (by first | omega | (simp only [List.length_set]; omega)) (.string x.id)
          have f1 : (w2.setCell ⟨b, i * 3, none⟩ (.string x.id)).frozen? ⟨b, i * 3 + 1, none⟩ = false := (hR1).frozen _
          obtain ⟨o1, z1⟩ : ∃ o, (w2.setCell ⟨b, i * 3, none⟩ (.string x.id)).cell? ⟨b, i * 3 + 1, none⟩ = some o := ⟨_, (hR1).at (i * 3 + 1) _ (List.getElem?_eq_getElem (by first | omega | (simp only [List.length_set]; omega)))⟩
          have hR2 := (hR1).set (i * 3 + 1) (by first | omega | (simp only [List.length_set]; omega)) (.string x.pub)
          have f2 : ((w2.setCell ⟨b, i * 3, none⟩ (.string x.id)).setCell ⟨b, i * 3 + 1, none⟩ (.string x.pub)).frozen? ⟨b, i * 3 + 2, none⟩ = false := (hR2).frozen _
          obtain ⟨o2, z2⟩ : ∃ o, ((w2.setCell ⟨b, i * 3, none⟩ (.string x.id)).setCell ⟨b, i * 3 + 1, none⟩ (.string x.pub)).cell? ⟨b, i * 3 + 2, none⟩ = some o := ⟨_, (hR2).at (i * 3 + 2) _ (List.getElem?_eq_getElem (by first | omega | (simp only [List.length_set]; omega)))⟩
          have hR3 := (hR2).set (i * 3 + 2) (by first | omega | (simp only [List.length_set]; omega)) (.string x.text)
          have hfin := hR3
          rw [show ((((cur.flatMap PItem.enc).set (i * 3) (.string x.id)).set (i * 3 + 1) (.string x.pub)).set (i * 3 + 2) (.string x.text)) = setsL (cur.flatMap PItem.enc) (i * 3) x.enc from rfl, flat_set PItem.enc 3 PItem.enc_len cur i (by omega) x] at hfin
          have HF := Lib.hid hfin
          clear hin hlenf hfin hbx hR1 hR2 hR3
          go_wp2_with fail
          go_roundw
          case rel => exact ⟨i + 1, j + 1, cur.set i x, by go_num, by go_num, by omega, by omega, HN, HF.out, gTrans hg (gTrans hal (gTrans (gBelow hB2 _) (gTrans (gTrans (gTrans (gRefl _ _) (grown_set _)) (grown_set _)) (grown_set _))))⟩
          case measure => simp [intOf]; omega
      · obtain rfl : j = l.length := by omega
        have hD := HC.out.done
        obtain ⟨w2, zs, hc2, hr2, hg2, hs2⟩ := run_clear_k (P := Try.prog) HW.out 26 36 (.agg #[.string ⟨#[]⟩, .string ⟨#[]⟩, .string ⟨#[]⟩]) Try.underlying26 zeroItem (i * 3) (l.length - i) (c - i) (by omega) (by rw [hlenf]; omega) (by show i * 3 + (l.length - i) * 3 ≤ c * 3; omega) (zeroOneItem _)
        rw [flat_take PItem.enc 3 PItem.enc_len cur i (by omega), hD] at hr2
        have hfl : (l.filter fun x => !p x).length = i := by rw [← hD, List.length_take]; omega
        have hr3 := hr2.take (i * 3)
        rw [List.take_left' (by rw [flat_len PItem.enc 3 PItem.enc_len, hfl])] at hr3
        have HF : Hid (OwE PItem.enc 3 w2 base 36 (.slice (some ⟨b, 0, none⟩) i c) (l.filter fun x => !p x)) := by
          unfold OwE
          rw [hfl]
          exact hr3.own e2 (by rw [flat_len PItem.enc 3 PItem.enc_len, hfl]) (by omega) e5
        clear hr2 hr3 hD hfl hlenf hs2
        have hic : ¬ c = i := by omega
        go_wp2_with fail
        go_returns
        exact ⟨_, rfl, HF.out, gTrans hg hg2⟩

/-- the key of one, by a function of the program -/
def OfFItem (f : Nat) : Prop := (∀ args w, (callFunc f args).run Try.prog w = .ok (.enter f args) w) ∧ ∀ (x : PItem) W, Calls Try.prog f #[.agg x.enc.toArray] W fun e w' => e = .returned (.string x.id) ∧ Below W.heap.size W w'
set_option maxRecDepth 100000 in
set_option maxHeartbeats 4000000 in
theorem dropcItem_any (f : Nat) (hf : OfFItem f) (x : PItem) (who : ByteArray) (b1 b2 : Nat) (w : World) (h1 : w.cell? ⟨b1, 0, none⟩ = some (.func (.func f) #[] #[])) (h2 : w.cell? ⟨b2, 0, none⟩ = some (.string who)) :
    Calls Try.prog 57 #[.agg x.enc.toArray, .pointer (some ⟨b1, 0, none⟩), .pointer (some ⟨b2, 0, none⟩)] w fun e w' => e = .returned (.bool (eqS x.id who)) ∧ Below w.heap.size w w' := by
  have eg := hf.1
  have hO := fun W => hf.2 x W
  clear hf
  unfold PItem.enc at *
  generalize x.id = a at *
  generalize x.pub = a1 at *
  generalize x.text = a2 at *
  have HO : Hid _ := hO
  clear hO
  have h1' := Lib.cell?_alloc_some (.cells #[.string a, .string a1, .string a2] 36) h1
  have h2' := Lib.cell?_alloc_some (.cells #[.string a, .string a1, .string a2] 36) h2
  go_enter Try.func57, Try.ntmps57
  have hlt := World.block_lt_of_cell? _ _ h2'
  have mixed : Try.prog.follows .mixedOrders = true := by kernel_rfl
  go_wp2_with fail
  go_region_with (go_at_fn f; refine (HO.out _).mono ?_; rintro e w1 ⟨rfl, hB1⟩; have h3 := (hB1.cell (p := ⟨b2, 0, none⟩) hlt).trans h2')
  all_goals go_wp2_with fail
  all_goals go_returns
  all_goals exact ⟨by rw [eqS_def]; rfl, below_box hB1⟩

set_option maxRecDepth 100000 in
set_option maxHeartbeats 4000000 in
theorem dropItem_any (f : Nat) (hf : OfFItem f) (base : Nat) (v : Value) (l : List PItem) (who : ByteArray) (w : World) (hown : OwE PItem.enc 3 w base 36 v l) (hb : base ≤ w.heap.size) (hn : l.length ≤ 1000) :
    Calls Try.prog 26 #[v, .string who, .func (.func f) #[] #[]] w fun e w' => ∃ v', e = .returned v' ∧ OwE PItem.enc 3 w' base 36 v' (dropL PItem.id who l) ∧ w.grownBy w' v.ownBlock := by
  obtain ⟨W0, hW0⟩ : ∃ W0, (w.alloc (.cells #[.string who] 9)).alloc (.cells #[.func (.func f) #[] #[]] 64) = W0 := ⟨_, rfl⟩
  have hbw : Below w.heap.size w W0 := by rw [← hW0]; exact ((Below.refl w.heap.size w).alloc (Nat.le_refl _) _).alloc (by simp) _
  have hs0 : W0.heap.size = w.heap.size + 2 := by rw [← hW0]; simp
  have hx0 : RowI W0 w.heap.size 9 1 [.string who] := by
    have := RowI.new w 9 [.string who] []
    exact this.kept (by rw [← hW0]; exact Below.heap_alloc _ _ _ (by simp))
  have hxo : RowI W0 (w.heap.size + 1) 64 1 [.func (.func f) #[] #[]] := by
    have := RowI.new (w.alloc (.cells #[.string who] 9)) 64 [.func (.func f) #[] #[]] []
    have e : (w.alloc (.cells #[.string who] 9)).heap.size = w.heap.size + 1 := by simp
    rw [e] at this
    exact this.kept (by rw [← hW0]; rfl)
  have hown0 : OwE PItem.enc 3 W0 base 36 v l := World.ownsRow.kept hown (gBelow hbw none) (by cases v.ownBlock <;> simp)
  have hlt : ∀ q, v.ownBlock = some q → q < w.heap.size := fun q hq => (World.ownsRow.lt hown q hq).2
  have hD := delItem_any 57 #[.pointer (some ⟨w.heap.size + 1, 0, none⟩), .pointer (some ⟨w.heap.size, 0, none⟩)] (enters_of Try.func57 (by kernel_rfl) rfl) (fun x => eqS x.id who) base v l W0 hown0 (by omega)
    (fun x W hW => dropcItem_any f hf x who (w.heap.size + 1) w.heap.size W ((hxo.kept (hW.block _ (by omega) (fun e => by have := hlt _ e.symm; omega))).at 0 _ rfl) ((hx0.kept (hW.block _ (by omega) (fun e => by have := hlt _ e.symm; omega))).at 0 _ rfl)) hn
  have HD := Lib.hid hD
  have HW := Lib.hid hW0
  have HB := Lib.hid hbw
  clear hD hW0 hbw hx0 hxo hown0 hs0
  obtain ⟨A, c, rfl⟩ := row_slice hown
  clear hown
  go_enter Try.func26, Try.ntmps26
  go_wp2_with fail
  rw [HW.out]
  with_reducible refine HD.out.mono ?_
  rintro e w1 ⟨v', rfl, ho, hg⟩
  obtain ⟨A', c', rfl⟩ := row_slice ho
  go_wp2_with fail
  go_returns
  exact ⟨_, rfl, ho, gTrans (gBelow HB.out _) hg⟩

theorem ofAff : OfFAff 35 := ⟨enters_of Try.func35 (by kernel_rfl) rfl, affOf_any⟩
theorem ofSub : OfFSub 37 := ⟨enters_of Try.func37 (by kernel_rfl) rfl, subOf_any⟩
theorem ofPub : OfFItem 27 := ⟨enters_of Try.func27 (by kernel_rfl) rfl, fun x w => by
  unfold PItem.enc
  generalize x.id = a
  generalize x.pub = a1
  generalize x.text = a2
  go_enter Try.func27, Try.ntmps27
  go_wp2_with fail
  go_returns
  exact ⟨rfl, (Below.refl _ _).alloc (Nat.le_refl _) _⟩⟩
theorem ofRet : OfFItem 62 := ⟨enters_of Try.func62 (by kernel_rfl) rfl, fun x w => by
  unfold PItem.enc
  generalize x.id = a
  generalize x.pub = a1
  generalize x.text = a2
  go_enter Try.func62, Try.ntmps62
  go_wp2_with fail
  go_returns
  exact ⟨rfl, (Below.refl _ _).alloc (Nat.le_refl _) _⟩⟩
end Go.Proofs.Ytpjaopcgoaannaa
