/- node.Encode. Written by gen_b5.py. -/
import Derived.Test.YtpjaopcgoaannaaGreatDoorB4
import Derived.Deep.RegionHeld3
namespace Go.Proofs.YtpjaopcgoaannaaGreatDoor
open Go.RowKit Go.Lib
open Hb

theorem gNew_ {B : Nat} {w w1 w2 w3 : World} (_hf : Fw w1 w2) (h2 : Below B w w2) (h1 : Below B w w1) (h3 : Below B w2 w3) : Below B w1 w3 :=
  ⟨(h3.os.trans h2.os).trans h1.os.symm, (h3.tape.trans h2.tape).trans h1.tape.symm, (h3.output.trans h2.output).trans h1.output.symm, Nat.le_trans _hf.1 h3.size, fun i hi => (h3.block i hi).trans ((h2.block i hi).trans (h1.block i hi).symm)⟩
theorem flat_le {α : Type} {g : α → List UInt8} {c : Nat} : ∀ (l : List α), (∀ a ∈ l, (g a).length ≤ c) → (l.flatMap g).length ≤ c * l.length
  | [], _ => Nat.zero_le _
  | a :: r, h => by
    rw [List.flatMap_cons, List.length_append, List.length_cons, Nat.mul_succ]
    have := flat_le r (fun x hx => h x (.tail _ hx))
    have := h a (.head _)
    omega
theorem affL_le {a : PAff} (h : (bl a.jid).length < 1000) : (affL a).length ≤ 2006 := by
  unfold affL
  rw [List.length_append]
  have := wordL_len h
  have := numL_len (n := a.role.toNat)
  omega
theorem subL_le {a : PSub} (h : (bl a.jid).length < 1000) : (subL a).length ≤ 3009 := by
  unfold subL
  rw [List.length_append, List.length_append]
  have := wordL_len h
  have := numL_len (n := a.depth.toNat)
  have : (wordL [if a.pending then 112 else 115]).length ≤ 1003 := wordL_len (show 1 < 1000 by decide)
  omega
theorem itemL_le {a : PItem} (h : (bl a.id).length < 1000 ∧ (bl a.pub).length < 1000 ∧ (bl a.text).length < 1000) : (itemL a).length ≤ 3009 := by
  unfold itemL
  rw [List.length_append, List.length_append]
  have := wordL_len h.1
  have := wordL_len h.2.1
  have := wordL_len h.2.2
  omega
theorem flat_take1 {α : Type} {g : α → List UInt8} {l : List α} {k : Nat} (h : k < l.length) : (l.take (k + 1)).flatMap g = (l.take k).flatMap g ++ g l[k] := by
  rw [← List.take_append_getElem h, List.flatMap_append]
  simp
theorem one_of {p : ByteArray → Prop} {x : ByteArray} (hx : p x) : ∀ s ∈ [x], p s := fun s hs => by obtain rfl : s = x := (by simpa using hs); exact hx
theorem two_of {p : ByteArray → Prop} {x y : ByteArray} (hx : p x) (hy : p y) : ∀ s ∈ [x, y], p s := fun s hs => by rcases List.mem_cons.1 hs with rfl | hs; exact hx; obtain rfl : s = y := (by simpa using hs); exact hy
theorem three_of {p : ByteArray → Prop} {x y z : ByteArray} (hx : p x) (hy : p y) (hz : p z) : ∀ s ∈ [x, y, z], p s := fun s hs => by rcases List.mem_cons.1 hs with rfl | hs; exact hx; exact two_of hy hz s hs
theorem of_len (c : Bool) (y n : UInt8) : (bl (ofS c ⟨#[y]⟩ ⟨#[n]⟩)).length < 1000 := by cases c <;> exact (show 1 < 1000 by decide)
theorem bl_of (c : Bool) (y n : UInt8) : bl (ofS c ⟨#[y]⟩ ⟨#[n]⟩) = [if c then y else n] := by cases c <;> rfl

set_option maxRecDepth 100000 in
set_option maxHeartbeats 16000000 in
theorem encode_any (v : Value) (n : PNode) (w : World) (hv : NodeV w v n) (hbd : Bd n) (hac : 0 ≤ n.access) (hT : Tab w) :
    Calls Tryz.prog 5 #[v] w fun e w' => e = .returned (if rightN pr n then .tuple #[.string (bs (encL n)), .int .i64 0] else .tuple #[.string ⟨#[]⟩, .int .i64 3]) ∧ Below w.heap.size w w' := by
  obtain ⟨A, S, I, rfl, hA, hS, hI⟩ := hv
  obtain ⟨aA, cA, rfl⟩ := hA.form
  obtain ⟨aS, cS, rfl⟩ := hS.form
  obtain ⟨aI, cI, rfl⟩ := hI.form
  obtain ⟨W0, hW0, hB0, hr0, hs0⟩ := one w 27 [.string n.name, .bool n.coll, .int .u8 n.access, .int .i64 n.max, .slice aA n.affs.length cA, .slice aS n.subs.length cS, .slice aI n.items.length cI, .string n.parent]
  have hRi := right_any _ n W0 (NodeV.below ⟨_, _, _, rfl, hA, hS, hI⟩ hB0) hbd
  have HG := Lib.hid hT.lt
  have HT := Lib.hid hT
  have mixed : Tryz.prog.follows .mixedOrders = true := by kernel_rfl
  cases hrt : rightN pr n with
  | false =>
    rw [hrt] at hRi
    have HRi := Lib.hid hRi
    have HW := Lib.hid hW0
    have HB := Lib.hid hB0
    have c0 := hr0.at 0 _ rfl
    have c1 := hr0.at 1 _ rfl
    have c2 := hr0.at 2 _ rfl
    have c3 := hr0.at 3 _ rfl
    have c4 := hr0.at 4 _ rfl
    have c5 := hr0.at 5 _ rfl
    have c6 := hr0.at 6 _ rfl
    have c7 := hr0.at 7 _ rfl
    clear hW0 hB0 hr0 hs0 hRi hA hS hI hbd hrt hac hT
    go_enter Tryz.func5, Tryz.ntmps5
    go_upto_region 1 with fail
    rw [HW.out]
    clear HW
    go_wp2_with fail
    (with_reducible refine HRi.out.mono ?_)
    rintro e w1 ⟨rfl, hB1⟩
    have HB1 := Lib.hid (HB.out.trans (hB1.mono HB.out.size))
    clear hB1
    go_wp2_with fail
    go_returns
    exact ⟨rfl, HB1.out⟩
  | true =>
    have hR := (right_iff pr n).1 hrt
    rw [hrt] at hRi
    have hsz := sizes_of hR hac
    have hh := hR.head
    unfold headN at hh
    simp only [Bool.and_eq_true, decide_eq_true_eq] at hh
    have hac2 : n.access ≤ 2 := hh.1.1.1.2
    have hmx0 : 0 ≤ n.max := hh.1.1.2
    have hmx8 : n.max ≤ 8 := by have := hh.1.2; split at this <;> omega
    obtain ⟨ac, hace⟩ : ∃ ac : Nat, n.access = ac := ⟨n.access.toNat, by omega⟩
    obtain ⟨mx, hmxe⟩ : ∃ mx : Nat, n.max = mx := ⟨n.max.toNat, by omega⟩
    have HIN : Hid (n.max ≤ 8) := hmx8
    have hac3 : ac < 1000 := by omega
    have hmx3 : mx < 1000 := by omega
    have HENC : Hid (encL n = wordL (bl n.name) ++ (wordL [if n.coll then 99 else 108] ++ (numL ac ++ (numL mx ++ (wordL (bl n.parent) ++ (numL n.affs.length ++ (n.affs.flatMap affL ++ (numL n.subs.length ++ (n.subs.flatMap subL ++ (numL n.items.length ++ (n.items.flatMap itemL ++ []))))))))))) := by
      show _ = _
      unfold encL
      rw [hace, hmxe, Int.toNat_natCast, Int.toNat_natCast]
    rw [hace, hmxe] at hRi hW0 hr0
    have HRi := Lib.hid hRi
    have HW := Lib.hid hW0
    have HB := Lib.hid hB0
    have HR := Lib.hid hr0
    have HS := Lib.hid hsz
    have HRP := Lib.hid hR
    have HA := Lib.hid hA
    have HSu := Lib.hid hS
    have HIt := Lib.hid hI
    have c0 := hr0.at 0 _ rfl
    have c1 := hr0.at 1 _ rfl
    have c2 := hr0.at 2 _ rfl
    have c3 := hr0.at 3 _ rfl
    have c4 := hr0.at 4 _ rfl
    have c5 := hr0.at 5 _ rfl
    have c6 := hr0.at 6 _ rfl
    have c7 := hr0.at 7 _ rfl
    clear hW0 hB0 hr0 hs0 hRi hA hS hI hbd hrt hT hR hsz hh hac2 hmx0 hmx8 
    rw [hace, hmxe]
    clear hace hmxe hac
    go_enter Tryz.func5, Tryz.ntmps5
    go_upto_region 1 with fail
    rw [HW.out]
    clear HW
    go_wp2_with fail
    (with_reducible refine HRi.out.mono ?_)
    rintro e w1 ⟨rfl, hB1⟩
    have HB1 := Lib.hid (HB.out.trans (hB1.mono HB.out.size))
    obtain ⟨w2, hw2, hb2, hr2, hs2⟩ := one w1 43 [.pointer none, .slice none 0 0]
    have HB2 := Lib.hid (HB1.out.trans (hb2.mono HB1.out.size))
    have HR2 := Lib.hid ((HR.out.below hB1).below hb2)
    obtain ⟨b, hb⟩ : ∃ b, b = w1.heap.size := ⟨_, rfl⟩
    have hi2 : WrI w.heap.size b [] w2 := by
      obtain ⟨ys, e1, e2⟩ := hr2
      obtain rfl : ys = [] := List.eq_nil_of_length_eq_zero (by rw [List.length_append] at e2; omega)
      rw [← hb] at e1
      exact .inl ⟨by rw [hb]; exact HB1.out.size, .slice none 0 0, e1, World.ownsRow_nil _ _ _ _, by simp [Value.ownBlock]⟩
    have HW2 := Lib.hid hi2
    have HQ2 := Lib.hid hw2
    obtain ⟨l2, hl2⟩ : ∃ l2 : List UInt8, l2 = [] := ⟨_, rfl⟩
    rw [← hl2] at HW2
    have HE2 := Lib.hid hl2
    have HL2 : Hid (l2.length ≤ 0) := by rw [hl2]; exact Nat.le_refl 0
    clear hw2 hb2 hr2 hs2 hB1 HB1 HRi HB HR hi2
    go_upto_region 4 with fail
    rw [HQ2.out, ← hb]
    clear HQ2 hb hl2
    have s0 := HR2.out.at 0 _ rfl
    have s1 := HR2.out.at 1 _ rfl
    refine wp_region_held_drew (S := (fun W => W.cell? ⟨w.heap.size, 0, none⟩ = some (.string n.name) ∧ W.cell? ⟨w.heap.size, 1, none⟩ = some (.bool n.coll))) mixed ⟨s0, s1⟩ (fun hHeld => ?_)
    first
      | (refine wpAnyH_take (i := 0) (oi := { dst := _, op := _, type := _, pos := _, after := _, guard := _ }) (v := _) rfl (by kernel_rfl) (by kernel_rfl) (by kernel_rfl) (fun _ _ _ h => h) (Or.inr ⟨by rfl, rfl⟩) hHeld ?_; (try simp only [Act.put, List.setIfInBounds_toArray, List.set_cons_zero, List.set_cons_succ]))
      | (refine wpAnyH_take (i := 0) (oi := { dst := _, op := _, type := _, pos := _, after := _, guard := _ }) (v := ?_) rfl (by kernel_rfl) (by kernel_rfl) (by kernel_rfl) (fun _ _ _ h => h) (Or.inl ⟨by rfl, ?_⟩) hHeld ?_; rotate_left; (focus (intro wS hSw; (try dsimp only at hSw); go_simp; (try with_reducible rfl); done)); (try simp only [Act.put, List.setIfInBounds_toArray, List.set_cons_zero, List.set_cons_succ]))
    refine wpAnyH_take (i := 1) (oi := { dst := _, op := _, type := _, pos := _, after := _, guard := _ }) (v := ?_) rfl (by kernel_rfl) (by kernel_rfl) (by kernel_rfl) (fun _ _ _ h => h) (Or.inl ⟨by rfl, ?_⟩) hHeld ?_; rotate_left; (focus (intro wS hSw; (have s0 := hSw.1); go_simp; (try with_reducible rfl); done)); (try simp only [Act.put, List.setIfInBounds_toArray, List.set_cons_zero, List.set_cons_succ])
    first
      | (refine wpAnyH_take (i := 2) (oi := { dst := _, op := _, type := _, pos := _, after := _, guard := _ }) (v := _) rfl (by kernel_rfl) (by kernel_rfl) (by kernel_rfl) (fun _ _ _ h => h) (Or.inr ⟨by rfl, rfl⟩) hHeld ?_; (try simp only [Act.put, List.setIfInBounds_toArray, List.set_cons_zero, List.set_cons_succ]))
      | (refine wpAnyH_take (i := 2) (oi := { dst := _, op := _, type := _, pos := _, after := _, guard := _ }) (v := ?_) rfl (by kernel_rfl) (by kernel_rfl) (by kernel_rfl) (fun _ _ _ h => h) (Or.inl ⟨by rfl, ?_⟩) hHeld ?_; rotate_left; (focus (intro wS hSw; (try dsimp only at hSw); go_simp; (try with_reducible rfl); done)); (try simp only [Act.put, List.setIfInBounds_toArray, List.set_cons_zero, List.set_cons_succ]))
    refine wpAnyH_take (i := 3) (oi := { dst := _, op := _, type := _, pos := _, after := _, guard := _ }) (v := ?_) rfl (by kernel_rfl) (by kernel_rfl) (by kernel_rfl) (fun _ _ _ h => h) (Or.inl ⟨by rfl, ?_⟩) hHeld ?_; rotate_left; (focus (intro wS hSw; (have s1 := hSw.2); go_simp; (try with_reducible rfl); done)); (try simp only [Act.put, List.setIfInBounds_toArray, List.set_cons_zero, List.set_cons_succ])
    refine wpAnyH_ready (rs := [4]) (by kernel_rfl) (by simp) ?_
    refine AllReadyH.cons (o := { dst := _, op := _, type := _, pos := _, after := _, guard := _ }) rfl (fun K hK => ?_) AllReadyH.nil
    go_simp
    go_at_call 11
    (with_reducible refine (of_any _ _ _ _).mono ?_)
    rintro e wq ⟨rfl, hwq⟩
    obtain rfl := hwq.symm
    clear hwq
    go_wp2_with fail
    refine hK.out _ _ ?_ (fun hHeld => ?_)
    focus (exact hHeld)
    clear hK K
    (try simp only [Act.put, List.setIfInBounds_toArray, List.set_cons_zero, List.set_cons_succ])
    obtain ⟨wq', hwq, hbq, hrq, hsq⟩ := one w2 9 [.string n.name, .string (ofS n.coll ⟨#[99]⟩ ⟨#[108]⟩)]
    have hdq : Below wq'.heap.size wq' wq'.drew := (Below.refl _ _).drew
    have HWq := Lib.hid hwq
    have hbq := hbq.trans (hdq.mono hbq.size)
    have hrq := hrq.below hdq
    clear hwq hdq
    refine wpAnyH_ready (rs := [5]) (by kernel_rfl) (by simp) ?_
    refine AllReadyH.cons (o := { dst := _, op := _, type := _, pos := _, after := _, guard := _ }) rfl (fun K hK => ?_) AllReadyH.nil
    go_simp
    rw [HWq.out]
    clear HWq
    generalize wq'.drew = wq at *
    have HBq := Lib.hid (HB2.out.trans (hbq.mono HB2.out.size))
    have HFq := Lib.hid (Fw.below hbq)
    have HC3 := Lib.hid (word_k 2 w.heap.size b w2.heap.size l2 [n.name, ofS n.coll ⟨#[99]⟩ ⟨#[108]⟩] rfl wq (HW2.out.below hbq) hrq (two_of (p := fun s => (bl s).length < 1000) HS.out.name (of_len _ _ _)) (show 2 ≤ 5 by decide) (by have := HL2.out; omega) HBq.out.size (HT.out.below HBq.out HG.out) HG.out)
    refine hK.out _ _ ?_ (fun hHeld => ?_)
    focus (exact ⟨(HR2.out.below hbq).at 0 _ rfl, (HR2.out.below hbq).at 1 _ rfl⟩)
    clear hK K
    (try simp only [Act.put, List.setIfInBounds_toArray, List.set_cons_zero, List.set_cons_succ])
    refine wpAnyH_ready (rs := [6]) (by kernel_rfl) (by simp) ?_
    refine AllReadyH.cons (o := { dst := _, op := _, type := _, pos := _, after := _, guard := _ }) rfl (fun K hK => ?_) AllReadyH.nil
    go_simp
    go_at_call 10
    (with_reducible refine HC3.out.mono ?_)
    rintro e w3 ⟨rfl, hi, hb0, hf0⟩
    have hf := HFq.out.trans hf0
    have hb : Below w.heap.size w2 w3 := (gNew_ HFq.out HBq.out HB2.out hb0)
    clear HC3 hb0 hf0 hbq hrq hsq
    obtain ⟨l3, hl3⟩ : ∃ l3, l3 = l2 ++ wordsL [n.name, ofS n.coll ⟨#[99]⟩ ⟨#[108]⟩] := ⟨_, rfl⟩
    rw [← hl3] at hi
    have HW3 := Lib.hid hi
    have HB3 := Lib.hid (HB2.out.trans hb)
    have HR3 := Lib.hid (HR2.out.fw hf (by decide) (by decide))
    have HL3 : Hid (l3.length ≤ 2006) := by
      show _ ≤ _
      rw [hl3, List.length_append]
      have h1 := HL2.out
      have h2 : (wordsL [n.name, ofS n.coll ⟨#[99]⟩ ⟨#[108]⟩]).length ≤ 2006 := wordsL_len [n.name, ofS n.coll ⟨#[99]⟩ ⟨#[108]⟩] (two_of (p := fun s => (bl s).length < 1000) HS.out.name (of_len _ _ _))
      omega
    have HE3 := Lib.hid hl3
    clear hi hb hf hl3
    go_wp2_with fail
    refine hK.out _ _ ?_ (fun hHeld => ?_)
    focus (exact ⟨HR3.out.at 0 _ rfl, HR3.out.at 1 _ rfl⟩)
    clear hK K
    (try simp only [Act.put, List.setIfInBounds_toArray, List.set_cons_zero, List.set_cons_succ])
    refine wpAnyH_done (by kernel_rfl) ?_ _
    clear s0 s1
    have c2 := HR3.out.at 2 _ rfl
    have HC4 := Lib.hid (number_any w.heap.size b l3 ac w3 HW3.out hac3 (by have := HL3.out; omega) HB3.out.size (HT.out.below HB3.out HG.out) HG.out)
    go_wp2_with fail
    (with_reducible refine HC4.out.mono ?_)
    rintro e w4 ⟨rfl, hi, hb, hf⟩
    clear HC4
    obtain ⟨l4, hl4⟩ : ∃ l4, l4 = l3 ++ numL ac := ⟨_, rfl⟩
    rw [← hl4] at hi
    have HW4 := Lib.hid hi
    have HB4 := Lib.hid (HB3.out.trans hb)
    have HR4 := Lib.hid (HR3.out.fw hf (by decide) (by decide))
    have HL4 : Hid (l4.length ≤ 3009) := by
      show _ ≤ _
      rw [hl4, List.length_append]
      have h1 := HL3.out
      have h2 : (numL ac).length ≤ 1003 := numL_len
      omega
    have HE4 := Lib.hid hl4
    clear hi hb hf hl4
    clear c2
    have c3 := HR4.out.at 3 _ rfl
    have HC5 := Lib.hid (number_any w.heap.size b l4 mx w4 HW4.out hmx3 (by have := HL4.out; omega) HB4.out.size (HT.out.below HB4.out HG.out) HG.out)
    go_wp2_with fail
    (with_reducible refine HC5.out.mono ?_)
    rintro e w5 ⟨rfl, hi, hb, hf⟩
    clear HC5
    obtain ⟨l5, hl5⟩ : ∃ l5, l5 = l4 ++ numL mx := ⟨_, rfl⟩
    rw [← hl5] at hi
    have HW5 := Lib.hid hi
    have HB5 := Lib.hid (HB4.out.trans hb)
    have HR5 := Lib.hid (HR4.out.fw hf (by decide) (by decide))
    have HL5 : Hid (l5.length ≤ 4012) := by
      show _ ≤ _
      rw [hl5, List.length_append]
      have h1 := HL4.out
      have h2 : (numL mx).length ≤ 1003 := numL_len
      omega
    have HE5 := Lib.hid hl5
    clear hi hb hf hl5
    clear c3
    have c7 := HR5.out.at 7 _ rfl
    obtain ⟨wq, hwq, hbq, hrq, hsq⟩ := one w5 9 [.string n.parent]
    have HWq := Lib.hid hwq
    have HBq := Lib.hid (HB5.out.trans (hbq.mono HB5.out.size))
    have HFq := Lib.hid (Fw.below hbq)
    have HC6 := Lib.hid (word_k 1 w.heap.size b w5.heap.size l5 [n.parent] rfl wq (HW5.out.below hbq) hrq (one_of (p := fun s => (bl s).length < 1000) HS.out.parent) (show 1 ≤ 5 by decide) (by have := HL5.out; omega) HBq.out.size (HT.out.below HBq.out HG.out) HG.out)
    clear hwq hbq hrq hsq
    go_wp2_with (rw [HWq.out])
    (with_reducible refine HC6.out.mono ?_)
    rintro e w6 ⟨rfl, hi, hb0, hf0⟩
    have hf := HFq.out.trans hf0
    have hb : Below w.heap.size w5 w6 := (gNew_ HFq.out HBq.out HB5.out hb0)
    clear HC6 HWq hb0 hf0
    obtain ⟨l6, hl6⟩ : ∃ l6, l6 = l5 ++ wordsL [n.parent] := ⟨_, rfl⟩
    rw [← hl6] at hi
    have HW6 := Lib.hid hi
    have HB6 := Lib.hid (HB5.out.trans hb)
    have HR6 := Lib.hid (HR5.out.fw hf (by decide) (by decide))
    have HL6 : Hid (l6.length ≤ 5015) := by
      show _ ≤ _
      rw [hl6, List.length_append]
      have h1 := HL5.out
      have h2 : (wordsL [n.parent]).length ≤ 1003 := wordsL_len [n.parent] (one_of (p := fun s => (bl s).length < 1000) HS.out.parent)
      omega
    have HE6 := Lib.hid hl6
    clear hi hb hf hl6
    clear c7
    have c4 := HR6.out.at 4 _ rfl
    have HC7 := Lib.hid (number_any w.heap.size b l6 n.affs.length w6 HW6.out (by have := HRP.out.affLen; omega) (by have := HL6.out; omega) HB6.out.size (HT.out.below HB6.out HG.out) HG.out)
    go_wp2_with fail
    (with_reducible refine HC7.out.mono ?_)
    rintro e w7 ⟨rfl, hi, hb, hf⟩
    clear HC7
    obtain ⟨l7, hl7⟩ : ∃ l7, l7 = l6 ++ numL n.affs.length := ⟨_, rfl⟩
    rw [← hl7] at hi
    have HW7 := Lib.hid hi
    have HB7 := Lib.hid (HB6.out.trans hb)
    have HR7 := Lib.hid (HR6.out.fw hf (by decide) (by decide))
    have HL7 : Hid (l7.length ≤ 6018) := by
      show _ ≤ _
      rw [hl7, List.length_append]
      have h1 := HL6.out
      have h2 : (numL n.affs.length).length ≤ 1003 := numL_len
      omega
    have HE7 := Lib.hid hl7
    clear hi hb hf hl7
    clear c4
    have HF7 := Lib.hid (Fw.refl w7)
    have c4 := HR7.out.at 4 _ rfl
    go_upto_region 10 with fail
    go_loopw [39] (fun iv W => ∃ k : Nat, k ≤ n.affs.length ∧ iv = .int .i64 k ∧ Hid (WrI w.heap.size b (l7 ++ (n.affs.take k).flatMap affL) W) ∧ Hid (Below w.heap.size w W) ∧ Hid (Fw w7 W)) (fun iv _ => n.affs.length - (intOf iv).toNat)
    case atStart => exact ⟨0, Nat.zero_le _, rfl, by show WrI _ _ _ _; simpa using HW7.out, HB7.out, Fw.refl _⟩
    case round =>
      obtain ⟨k, hk, rfl, HWk, HBk, HFk⟩ := hrel
      have hfl : n.affs.length ≤ 16 := HRP.out.affLen
      by_cases hlt : k < n.affs.length
      · have ck : decide ((k : Int) < (n.affs.length : Int)) = true := by rw [decide_eq_true_eq]; omega
        obtain ⟨g, off, hag, hcell⟩ := ((HA).out.below HBk.out).at k hlt
        subst hag
        have t0 : wr.cell? ⟨g, off + k * 2, none⟩ = some (.string n.affs[k].jid) := hcell 0 (by decide)
        have t1 : wr.cell? ⟨g, off + k * 2 + 1, none⟩ = some (.int .u8 n.affs[k].role) := hcell 1 (by decide)
        have hsz := HS.out.aff _ (List.getElem_mem hlt)
        have HTK := Lib.hid (flat_take1 (g := affL) hlt)
        have hll : (l7 ++ (n.affs.take k).flatMap affL).length ≤ 38114 := by
          have h1 := flat_le (g := affL) (c := 2006) (n.affs.take k) (fun a ha => affL_le (HS.out.aff a (List.mem_of_mem_take ha)))
          have h2 := HL7.out
          rw [List.length_take] at h1
          rw [List.length_append]
          have h3 : 2006 * min k n.affs.length ≤ 2006 * 16 := Nat.mul_le_mul_left _ (by omega)
          omega
        obtain ⟨l700, hl0⟩ : ∃ l0, l7 ++ (n.affs.take k).flatMap affL = l0 := ⟨_, rfl⟩
        rw [hl0] at HWk hll
        have HL700' := Lib.hid hll
        have HE0 := Lib.hid hl0
        have hro := HRP.out.roles _ (List.getElem_mem hlt)
        have hxr : 0 ≤ n.affs[k].role ∧ n.affs[k].role ≤ 5 := by unfold roleOk at hro; simp only [Bool.or_eq_true, beq_iff_eq] at hro; omega
        have HXE : Hid (affL n.affs[k] = wordL (bl n.affs[k].jid) ++ numL n.affs[k].role.toNat) := rfl
        clear hro
        clear hl0 hll hcell
        generalize n.affs[k].jid = xj at *
        generalize n.affs[k].role = xq at *
        obtain ⟨xr, rfl⟩ : ∃ xr : Nat, xq = xr := ⟨xq.toNat, by omega⟩
        rw [Int.toNat_natCast] at HXE
        have hxr3 : xr < 1000 := by omega
        have HXR := Lib.hid hxr3
        have HSZ := Lib.hid hsz
        clear hxr hsz
        obtain ⟨w700, hw, hb, hr, hs⟩ := one wr 49 [.string xj, .int .u8 (xr : Int)]
        have HQ := Lib.hid hw
        have HW700 := Lib.hid (HWk.out.below hb)
        have HB700 := Lib.hid (HBk.out.trans (hb.mono HBk.out.size))
        have HF700 := Lib.hid (HFk.out.trans (Fw.below hb))
        have HX700 := Lib.hid hr
        have HR700 := Lib.hid (HR7.out.fw HF700.out (by decide) (by decide))
        have HL700 := HL700'
        clear hw hb hr hs HL700'
        go_upto_region 12 with fail
        rw [HQ.out]
        clear HQ
        have x0 := HX700.out.at 0 _ rfl
        obtain ⟨wq, hwq, hbq, hrq, hsq⟩ := one w700 9 [.string xj]
        have HWq := Lib.hid hwq
        have HBq := Lib.hid (HB700.out.trans (hbq.mono HB700.out.size))
        have HFq := Lib.hid (Fw.below hbq)
        have HC701 := Lib.hid (word_k 1 w.heap.size b w700.heap.size l700 [xj] rfl wq (HW700.out.below hbq) hrq (one_of (p := fun s => (bl s).length < 1000) HSZ.out) (show 1 ≤ 5 by decide) (by have := HL700.out; omega) HBq.out.size (HT.out.below HBq.out HG.out) HG.out)
        clear hwq hbq hrq hsq
        go_wp2_with (rw [HWq.out])
        (with_reducible refine HC701.out.mono ?_)
        rintro e w701 ⟨rfl, hi, hb0, hf0⟩
        have hf := HFq.out.trans hf0
        have hb : Below w.heap.size w700 w701 := (gNew_ HFq.out HBq.out HB700.out hb0)
        clear HC701 HWq hb0 hf0
        obtain ⟨l701, hl701⟩ : ∃ l701, l701 = l700 ++ wordsL [xj] := ⟨_, rfl⟩
        rw [← hl701] at hi
        have HW701 := Lib.hid hi
        have HB701 := Lib.hid (HB700.out.trans hb)
        have HR701 := Lib.hid (HR700.out.fw hf (by decide) (by decide))
        have HL701 : Hid (l701.length ≤ 39117) := by
          show _ ≤ _
          rw [hl701, List.length_append]
          have h1 := HL700.out
          have h2 : (wordsL [xj]).length ≤ 1003 := wordsL_len [xj] (one_of (p := fun s => (bl s).length < 1000) HSZ.out)
          omega
        have HE701 := Lib.hid hl701
        have HX701 := Lib.hid (HX700.out.fw hf (by decide) (by decide))
        have HF701 := Lib.hid (HF700.out.trans hf)
        clear hi hb hf hl701
        clear x0
        have x1 := HX701.out.at 1 _ rfl
        have HC702 := Lib.hid (number_any w.heap.size b l701 xr w701 HW701.out HXR.out (by have := HL701.out; omega) HB701.out.size (HT.out.below HB701.out HG.out) HG.out)
        go_wp2_with fail
        (with_reducible refine HC702.out.mono ?_)
        rintro e w702 ⟨rfl, hi, hb, hf⟩
        clear HC702
        obtain ⟨l702, hl702⟩ : ∃ l702, l702 = l701 ++ numL xr := ⟨_, rfl⟩
        rw [← hl702] at hi
        have HW702 := Lib.hid hi
        have HB702 := Lib.hid (HB701.out.trans hb)
        have HR702 := Lib.hid (HR701.out.fw hf (by decide) (by decide))
        have HL702 : Hid (l702.length ≤ 40120) := by
          show _ ≤ _
          rw [hl702, List.length_append]
          have h1 := HL701.out
          have h2 : (numL xr).length ≤ 1003 := numL_len
          omega
        have HE702 := Lib.hid hl702
        have HX702 := Lib.hid (HX701.out.fw hf (by decide) (by decide))
        have HF702 := Lib.hid (HF701.out.trans hf)
        clear hi hb hf hl702
        go_wp2_with fail
        go_roundw
        case rel =>
          refine ⟨k + 1, by omega, by go_num, ?_, HB702.out, HF702.out⟩
          show WrI _ _ _ _
          rw [HTK.out, ← List.append_assoc, HE0.out]
          have e1 : l702 = l700 ++ affL n.affs[k] := by
            rw [HE702.out, HE701.out]
            rw [HXE.out]; simp [wordsL]
          rw [← e1]
          exact HW702.out
        case measure => simp [intOf]; omega
      · have ck : decide ((k : Int) < (n.affs.length : Int)) = false := by rw [decide_eq_false_iff_not]; omega
        have hkl : k = n.affs.length := by omega
        subst hkl
        rw [List.take_length] at HWk
        have hll : (l7 ++ n.affs.flatMap affL).length ≤ 38114 := by
          have h1 := flat_le (g := affL) (c := 2006) n.affs (fun a ha => affL_le (HS.out.aff a ha))
          have h2 := HL7.out
          rw [List.length_append]
          have h3 : 2006 * n.affs.length ≤ 2006 * 16 := Nat.mul_le_mul_left _ hfl
          omega
        obtain ⟨l8, hl8⟩ : ∃ l0, l0 = l7 ++ n.affs.flatMap affL := ⟨_, rfl⟩
        rw [← hl8] at HWk hll
        have HE8 := Lib.hid hl8
        have HL8 := Lib.hid hll
        have HW8 := HWk
        have HB8 := HBk
        have HR8 := Lib.hid (HR7.out.fw HFk.out (by decide) (by decide))
        clear hl8 hll
        obtain ⟨w8, hwx⟩ : ∃ x, x = wr := ⟨_, rfl⟩
        rw [← hwx] at HW8 HB8 HR8 ⊢
        clear hwx HWk HBk HFk
        have c5 := HR8.out.at 5 _ rfl
        have HC9 := Lib.hid (number_any w.heap.size b l8 n.subs.length w8 HW8.out (by have := HRP.out.subLen; omega) (by have := HL8.out; omega) HB8.out.size (HT.out.below HB8.out HG.out) HG.out)
        go_wp2_with fail
        (with_reducible refine HC9.out.mono ?_)
        rintro e w9 ⟨rfl, hi, hb, hf⟩
        clear HC9
        obtain ⟨l9, hl9⟩ : ∃ l9, l9 = l8 ++ numL n.subs.length := ⟨_, rfl⟩
        rw [← hl9] at hi
        have HW9 := Lib.hid hi
        have HB9 := Lib.hid (HB8.out.trans hb)
        have HR9 := Lib.hid (HR8.out.fw hf (by decide) (by decide))
        have HL9 : Hid (l9.length ≤ 39117) := by
          show _ ≤ _
          rw [hl9, List.length_append]
          have h1 := HL8.out
          have h2 : (numL n.subs.length).length ≤ 1003 := numL_len
          omega
        have HE9 := Lib.hid hl9
        clear hi hb hf hl9
        have HF9 := Lib.hid (Fw.refl w9)
        have c5 := HR9.out.at 5 _ rfl
        go_upto_region 17 with fail
        go_loopw [59] (fun iv W => ∃ k : Nat, k ≤ n.subs.length ∧ iv = .int .i64 k ∧ Hid (WrI w.heap.size b (l9 ++ (n.subs.take k).flatMap subL) W) ∧ Hid (Below w.heap.size w W) ∧ Hid (Fw w9 W)) (fun iv _ => n.subs.length - (intOf iv).toNat)
        case atStart => exact ⟨0, Nat.zero_le _, rfl, by show WrI _ _ _ _; simpa using HW9.out, HB9.out, Fw.refl _⟩
        case round =>
          obtain ⟨k, hk, rfl, HWk, HBk, HFk⟩ := hrel
          have hfl : n.subs.length ≤ 16 := HRP.out.subLen
          by_cases hlt : k < n.subs.length
          · have ck : decide ((k : Int) < (n.subs.length : Int)) = true := by rw [decide_eq_true_eq]; omega
            obtain ⟨g, off, hag, hcell⟩ := ((HSu).out.below HBk.out).at k hlt
            subst hag
            have t0 : wr.cell? ⟨g, off + k * 3, none⟩ = some (.string n.subs[k].jid) := hcell 0 (by decide)
            have t1 : wr.cell? ⟨g, off + k * 3 + 1, none⟩ = some (.bool n.subs[k].pending) := hcell 1 (by decide)
            have t2 : wr.cell? ⟨g, off + k * 3 + 2, none⟩ = some (.int .i64 n.subs[k].depth) := hcell 2 (by decide)
            have hsz := HS.out.sub _ (List.getElem_mem hlt)
            have HTK := Lib.hid (flat_take1 (g := subL) hlt)
            have hll : (l9 ++ (n.subs.take k).flatMap subL).length ≤ 87261 := by
              have h1 := flat_le (g := subL) (c := 3009) (n.subs.take k) (fun a ha => subL_le (HS.out.sub a (List.mem_of_mem_take ha)))
              have h2 := HL9.out
              rw [List.length_take] at h1
              rw [List.length_append]
              have h3 : 3009 * min k n.subs.length ≤ 3009 * 16 := Nat.mul_le_mul_left _ (by omega)
              omega
            obtain ⟨l900, hl0⟩ : ∃ l0, l9 ++ (n.subs.take k).flatMap subL = l0 := ⟨_, rfl⟩
            rw [hl0] at HWk hll
            have HL900' := Lib.hid hll
            have HE0 := Lib.hid hl0
            have hro := HRP.out.depth _ (List.getElem_mem hlt)
            have hxr : 0 ≤ n.subs[k].depth ∧ n.subs[k].depth ≤ 255 := by unfold depthBad at hro; simp only [Bool.or_eq_false_iff, decide_eq_false_iff_not] at hro; omega
            have HXE : Hid (subL n.subs[k] = wordL (bl n.subs[k].jid) ++ (wordL [if n.subs[k].pending then 112 else 115] ++ numL n.subs[k].depth.toNat)) := rfl
            clear hro
            clear hl0 hll hcell
            generalize n.subs[k].jid = xj at *
            generalize n.subs[k].pending = xp at *
            generalize n.subs[k].depth = xq at *
            obtain ⟨xr, rfl⟩ : ∃ xr : Nat, xq = xr := ⟨xq.toNat, by omega⟩
            rw [Int.toNat_natCast] at HXE
            have hxr3 : xr < 1000 := by omega
            have HXR := Lib.hid hxr3
            have HSZ := Lib.hid hsz
            clear hxr hsz
            obtain ⟨w900, hw, hb, hr, hs⟩ := one wr 51 [.string xj, .bool xp, .int .i64 (xr : Int)]
            have HQ := Lib.hid hw
            have HW900 := Lib.hid (HWk.out.below hb)
            have HB900 := Lib.hid (HBk.out.trans (hb.mono HBk.out.size))
            have HF900 := Lib.hid (HFk.out.trans (Fw.below hb))
            have HX900 := Lib.hid hr
            have HR900 := Lib.hid (HR9.out.fw HF900.out (by decide) (by decide))
            have HL900 := HL900'
            clear hw hb hr hs HL900'
            go_upto_region 19 with fail
            rw [HQ.out]
            clear HQ
            have s0 := HX900.out.at 0 _ rfl
            have s1 := HX900.out.at 1 _ rfl
            refine wp_region_held_drew (S := (fun W => W.cell? ⟨wr.heap.size, 0, none⟩ = some (.string xj) ∧ W.cell? ⟨wr.heap.size, 1, none⟩ = some (.bool xp))) mixed ⟨s0, s1⟩ (fun hHeld => ?_)
            first
              | (refine wpAnyH_take (i := 0) (oi := { dst := _, op := _, type := _, pos := _, after := _, guard := _ }) (v := _) rfl (by kernel_rfl) (by kernel_rfl) (by kernel_rfl) (fun _ _ _ h => h) (Or.inr ⟨by rfl, rfl⟩) hHeld ?_; (try simp only [Act.put, List.setIfInBounds_toArray, List.set_cons_zero, List.set_cons_succ]))
              | (refine wpAnyH_take (i := 0) (oi := { dst := _, op := _, type := _, pos := _, after := _, guard := _ }) (v := ?_) rfl (by kernel_rfl) (by kernel_rfl) (by kernel_rfl) (fun _ _ _ h => h) (Or.inl ⟨by rfl, ?_⟩) hHeld ?_; rotate_left; (focus (intro wS hSw; (try dsimp only at hSw); go_simp; (try with_reducible rfl); done)); (try simp only [Act.put, List.setIfInBounds_toArray, List.set_cons_zero, List.set_cons_succ]))
            refine wpAnyH_take (i := 1) (oi := { dst := _, op := _, type := _, pos := _, after := _, guard := _ }) (v := ?_) rfl (by kernel_rfl) (by kernel_rfl) (by kernel_rfl) (fun _ _ _ h => h) (Or.inl ⟨by rfl, ?_⟩) hHeld ?_; rotate_left; (focus (intro wS hSw; (have s0 := hSw.1); go_simp; (try with_reducible rfl); done)); (try simp only [Act.put, List.setIfInBounds_toArray, List.set_cons_zero, List.set_cons_succ])
            first
              | (refine wpAnyH_take (i := 2) (oi := { dst := _, op := _, type := _, pos := _, after := _, guard := _ }) (v := _) rfl (by kernel_rfl) (by kernel_rfl) (by kernel_rfl) (fun _ _ _ h => h) (Or.inr ⟨by rfl, rfl⟩) hHeld ?_; (try simp only [Act.put, List.setIfInBounds_toArray, List.set_cons_zero, List.set_cons_succ]))
              | (refine wpAnyH_take (i := 2) (oi := { dst := _, op := _, type := _, pos := _, after := _, guard := _ }) (v := ?_) rfl (by kernel_rfl) (by kernel_rfl) (by kernel_rfl) (fun _ _ _ h => h) (Or.inl ⟨by rfl, ?_⟩) hHeld ?_; rotate_left; (focus (intro wS hSw; (try dsimp only at hSw); go_simp; (try with_reducible rfl); done)); (try simp only [Act.put, List.setIfInBounds_toArray, List.set_cons_zero, List.set_cons_succ]))
            refine wpAnyH_take (i := 3) (oi := { dst := _, op := _, type := _, pos := _, after := _, guard := _ }) (v := ?_) rfl (by kernel_rfl) (by kernel_rfl) (by kernel_rfl) (fun _ _ _ h => h) (Or.inl ⟨by rfl, ?_⟩) hHeld ?_; rotate_left; (focus (intro wS hSw; (have s1 := hSw.2); go_simp; (try with_reducible rfl); done)); (try simp only [Act.put, List.setIfInBounds_toArray, List.set_cons_zero, List.set_cons_succ])
            refine wpAnyH_ready (rs := [4]) (by kernel_rfl) (by simp) ?_
            refine AllReadyH.cons (o := { dst := _, op := _, type := _, pos := _, after := _, guard := _ }) rfl (fun K hK => ?_) AllReadyH.nil
            go_simp
            go_at_call 11
            (with_reducible refine (of_any _ _ _ _).mono ?_)
            rintro e wq ⟨rfl, hwq⟩
            obtain rfl := hwq.symm
            clear hwq
            go_wp2_with fail
            refine hK.out _ _ ?_ (fun hHeld => ?_)
            focus (exact hHeld)
            clear hK K
            (try simp only [Act.put, List.setIfInBounds_toArray, List.set_cons_zero, List.set_cons_succ])
            obtain ⟨wq', hwq, hbq, hrq, hsq⟩ := one w900 9 [.string xj, .string (ofS xp ⟨#[112]⟩ ⟨#[115]⟩)]
            have hdq : Below wq'.heap.size wq' wq'.drew := (Below.refl _ _).drew
            have HWq := Lib.hid hwq
            have hbq := hbq.trans (hdq.mono hbq.size)
            have hrq := hrq.below hdq
            clear hwq hdq
            refine wpAnyH_ready (rs := [5]) (by kernel_rfl) (by simp) ?_
            refine AllReadyH.cons (o := { dst := _, op := _, type := _, pos := _, after := _, guard := _ }) rfl (fun K hK => ?_) AllReadyH.nil
            go_simp
            rw [HWq.out]
            clear HWq
            generalize wq'.drew = wq at *
            have HBq := Lib.hid (HB900.out.trans (hbq.mono HB900.out.size))
            have HFq := Lib.hid (Fw.below hbq)
            have HC901 := Lib.hid (word_k 2 w.heap.size b w900.heap.size l900 [xj, ofS xp ⟨#[112]⟩ ⟨#[115]⟩] rfl wq (HW900.out.below hbq) hrq (two_of (p := fun s => (bl s).length < 1000) HSZ.out (of_len _ _ _)) (show 2 ≤ 5 by decide) (by have := HL900.out; omega) HBq.out.size (HT.out.below HBq.out HG.out) HG.out)
            refine hK.out _ _ ?_ (fun hHeld => ?_)
            focus (exact ⟨(HX900.out.below hbq).at 0 _ rfl, (HX900.out.below hbq).at 1 _ rfl⟩)
            clear hK K
            (try simp only [Act.put, List.setIfInBounds_toArray, List.set_cons_zero, List.set_cons_succ])
            refine wpAnyH_ready (rs := [6]) (by kernel_rfl) (by simp) ?_
            refine AllReadyH.cons (o := { dst := _, op := _, type := _, pos := _, after := _, guard := _ }) rfl (fun K hK => ?_) AllReadyH.nil
            go_simp
            go_at_call 10
            (with_reducible refine HC901.out.mono ?_)
            rintro e w901 ⟨rfl, hi, hb0, hf0⟩
            have hf := HFq.out.trans hf0
            have hb : Below w.heap.size w900 w901 := (gNew_ HFq.out HBq.out HB900.out hb0)
            clear HC901 hb0 hf0 hbq hrq hsq
            obtain ⟨l901, hl901⟩ : ∃ l901, l901 = l900 ++ wordsL [xj, ofS xp ⟨#[112]⟩ ⟨#[115]⟩] := ⟨_, rfl⟩
            rw [← hl901] at hi
            have HW901 := Lib.hid hi
            have HB901 := Lib.hid (HB900.out.trans hb)
            have HR901 := Lib.hid (HR900.out.fw hf (by decide) (by decide))
            have HL901 : Hid (l901.length ≤ 89267) := by
              show _ ≤ _
              rw [hl901, List.length_append]
              have h1 := HL900.out
              have h2 : (wordsL [xj, ofS xp ⟨#[112]⟩ ⟨#[115]⟩]).length ≤ 2006 := wordsL_len [xj, ofS xp ⟨#[112]⟩ ⟨#[115]⟩] (two_of (p := fun s => (bl s).length < 1000) HSZ.out (of_len _ _ _))
              omega
            have HE901 := Lib.hid hl901
            have HX901 := Lib.hid (HX900.out.fw hf (by decide) (by decide))
            have HF901 := Lib.hid (HF900.out.trans hf)
            clear hi hb hf hl901
            go_wp2_with fail
            refine hK.out _ _ ?_ (fun hHeld => ?_)
            focus (exact ⟨HX901.out.at 0 _ rfl, HX901.out.at 1 _ rfl⟩)
            clear hK K
            (try simp only [Act.put, List.setIfInBounds_toArray, List.set_cons_zero, List.set_cons_succ])
            refine wpAnyH_done (by kernel_rfl) ?_ _
            clear s0 s1
            have x2 := HX901.out.at 2 _ rfl
            have HC902 := Lib.hid (number_any w.heap.size b l901 xr w901 HW901.out HXR.out (by have := HL901.out; omega) HB901.out.size (HT.out.below HB901.out HG.out) HG.out)
            go_wp2_with fail
            (with_reducible refine HC902.out.mono ?_)
            rintro e w902 ⟨rfl, hi, hb, hf⟩
            clear HC902
            obtain ⟨l902, hl902⟩ : ∃ l902, l902 = l901 ++ numL xr := ⟨_, rfl⟩
            rw [← hl902] at hi
            have HW902 := Lib.hid hi
            have HB902 := Lib.hid (HB901.out.trans hb)
            have HR902 := Lib.hid (HR901.out.fw hf (by decide) (by decide))
            have HL902 : Hid (l902.length ≤ 90270) := by
              show _ ≤ _
              rw [hl902, List.length_append]
              have h1 := HL901.out
              have h2 : (numL xr).length ≤ 1003 := numL_len
              omega
            have HE902 := Lib.hid hl902
            have HX902 := Lib.hid (HX901.out.fw hf (by decide) (by decide))
            have HF902 := Lib.hid (HF901.out.trans hf)
            clear hi hb hf hl902
            go_wp2_with fail
            go_roundw
            case rel =>
              refine ⟨k + 1, by omega, by go_num, ?_, HB902.out, HF902.out⟩
              show WrI _ _ _ _
              rw [HTK.out, ← List.append_assoc, HE0.out]
              have e1 : l902 = l900 ++ subL n.subs[k] := by
                rw [HE902.out, HE901.out]
                rw [HXE.out]; simp [wordsL, bl_of]
              rw [← e1]
              exact HW902.out
            case measure => simp [intOf]; omega
          · have ck : decide ((k : Int) < (n.subs.length : Int)) = false := by rw [decide_eq_false_iff_not]; omega
            have hkl : k = n.subs.length := by omega
            subst hkl
            rw [List.take_length] at HWk
            have hll : (l9 ++ n.subs.flatMap subL).length ≤ 87261 := by
              have h1 := flat_le (g := subL) (c := 3009) n.subs (fun a ha => subL_le (HS.out.sub a ha))
              have h2 := HL9.out
              rw [List.length_append]
              have h3 : 3009 * n.subs.length ≤ 3009 * 16 := Nat.mul_le_mul_left _ hfl
              omega
            obtain ⟨l10, hl10⟩ : ∃ l0, l0 = l9 ++ n.subs.flatMap subL := ⟨_, rfl⟩
            rw [← hl10] at HWk hll
            have HE10 := Lib.hid hl10
            have HL10 := Lib.hid hll
            have HW10 := HWk
            have HB10 := HBk
            have HR10 := Lib.hid (HR9.out.fw HFk.out (by decide) (by decide))
            clear hl10 hll
            obtain ⟨w10, hwx⟩ : ∃ x, x = wr := ⟨_, rfl⟩
            rw [← hwx] at HW10 HB10 HR10 ⊢
            clear hwx HWk HBk HFk
            have c6 := HR10.out.at 6 _ rfl
            have HC11 := Lib.hid (number_any w.heap.size b l10 n.items.length w10 HW10.out (by have := HRP.out.most; have := HIN.out; omega) (by have := HL10.out; omega) HB10.out.size (HT.out.below HB10.out HG.out) HG.out)
            go_wp2_with fail
            (with_reducible refine HC11.out.mono ?_)
            rintro e w11 ⟨rfl, hi, hb, hf⟩
            clear HC11
            obtain ⟨l11, hl11⟩ : ∃ l11, l11 = l10 ++ numL n.items.length := ⟨_, rfl⟩
            rw [← hl11] at hi
            have HW11 := Lib.hid hi
            have HB11 := Lib.hid (HB10.out.trans hb)
            have HR11 := Lib.hid (HR10.out.fw hf (by decide) (by decide))
            have HL11 : Hid (l11.length ≤ 88264) := by
              show _ ≤ _
              rw [hl11, List.length_append]
              have h1 := HL10.out
              have h2 : (numL n.items.length).length ≤ 1003 := numL_len
              omega
            have HE11 := Lib.hid hl11
            clear hi hb hf hl11
            have HF11 := Lib.hid (Fw.refl w11)
            have c6 := HR11.out.at 6 _ rfl
            go_upto_region 24 with fail
            go_loopw [81] (fun iv W => ∃ k : Nat, k ≤ n.items.length ∧ iv = .int .i64 k ∧ Hid (WrI w.heap.size b (l11 ++ (n.items.take k).flatMap itemL) W) ∧ Hid (Below w.heap.size w W) ∧ Hid (Fw w11 W)) (fun iv _ => n.items.length - (intOf iv).toNat)
            case atStart => exact ⟨0, Nat.zero_le _, rfl, by show WrI _ _ _ _; simpa using HW11.out, HB11.out, Fw.refl _⟩
            case round =>
              obtain ⟨k, hk, rfl, HWk, HBk, HFk⟩ := hrel
              have hfl : n.items.length ≤ 8 := (by have := HRP.out.most; have := HIN.out; omega)
              by_cases hlt : k < n.items.length
              · have ck : decide ((k : Int) < (n.items.length : Int)) = true := by rw [decide_eq_true_eq]; omega
                obtain ⟨g, off, hag, hcell⟩ := ((HIt).out.below HBk.out).at k hlt
                subst hag
                have t0 : wr.cell? ⟨g, off + k * 3, none⟩ = some (.string n.items[k].id) := hcell 0 (by decide)
                have t1 : wr.cell? ⟨g, off + k * 3 + 1, none⟩ = some (.string n.items[k].pub) := hcell 1 (by decide)
                have t2 : wr.cell? ⟨g, off + k * 3 + 2, none⟩ = some (.string n.items[k].text) := hcell 2 (by decide)
                have hsz := HS.out.item _ (List.getElem_mem hlt)
                have HTK := Lib.hid (flat_take1 (g := itemL) hlt)
                have hll : (l11 ++ (n.items.take k).flatMap itemL).length ≤ 112336 := by
                  have h1 := flat_le (g := itemL) (c := 3009) (n.items.take k) (fun a ha => itemL_le (HS.out.item a (List.mem_of_mem_take ha)))
                  have h2 := HL11.out
                  rw [List.length_take] at h1
                  rw [List.length_append]
                  have h3 : 3009 * min k n.items.length ≤ 3009 * 8 := Nat.mul_le_mul_left _ (by omega)
                  omega
                obtain ⟨l1100, hl0⟩ : ∃ l0, l11 ++ (n.items.take k).flatMap itemL = l0 := ⟨_, rfl⟩
                rw [hl0] at HWk hll
                have HL1100' := Lib.hid hll
                have HE0 := Lib.hid hl0
                have HXE : Hid (itemL n.items[k] = wordL (bl n.items[k].id) ++ (wordL (bl n.items[k].pub) ++ wordL (bl n.items[k].text))) := rfl
                clear hl0 hll hcell
                generalize n.items[k].id = xi at *
                generalize n.items[k].pub = xp at *
                generalize n.items[k].text = xt at *
                have HSZ := Lib.hid hsz
                clear hsz
                obtain ⟨w1100, hw, hb, hr, hs⟩ := one wr 53 [.string xi, .string xp, .string xt]
                have HQ := Lib.hid hw
                have HW1100 := Lib.hid (HWk.out.below hb)
                have HB1100 := Lib.hid (HBk.out.trans (hb.mono HBk.out.size))
                have HF1100 := Lib.hid (HFk.out.trans (Fw.below hb))
                have HX1100 := Lib.hid hr
                have HR1100 := Lib.hid (HR11.out.fw HF1100.out (by decide) (by decide))
                have HL1100 := HL1100'
                clear hw hb hr hs HL1100'
                go_upto_region 26 with fail
                rw [HQ.out]
                clear HQ
                have x0 := HX1100.out.at 0 _ rfl
                have x1 := HX1100.out.at 1 _ rfl
                have x2 := HX1100.out.at 2 _ rfl
                obtain ⟨wq, hwq, hbq, hrq, hsq⟩ := one w1100 9 [.string xi, .string xp, .string xt]
                have HWq := Lib.hid hwq
                have HBq := Lib.hid (HB1100.out.trans (hbq.mono HB1100.out.size))
                have HFq := Lib.hid (Fw.below hbq)
                have HC1101 := Lib.hid (word_k 3 w.heap.size b w1100.heap.size l1100 [xi, xp, xt] rfl wq (HW1100.out.below hbq) hrq (three_of (p := fun s => (bl s).length < 1000) HSZ.out.1 HSZ.out.2.1 HSZ.out.2.2) (show 3 ≤ 5 by decide) (by have := HL1100.out; omega) HBq.out.size (HT.out.below HBq.out HG.out) HG.out)
                clear hwq hbq hrq hsq
                go_wp2_with (rw [HWq.out])
                (with_reducible refine HC1101.out.mono ?_)
                rintro e w1101 ⟨rfl, hi, hb0, hf0⟩
                have hf := HFq.out.trans hf0
                have hb : Below w.heap.size w1100 w1101 := (gNew_ HFq.out HBq.out HB1100.out hb0)
                clear HC1101 HWq hb0 hf0
                obtain ⟨l1101, hl1101⟩ : ∃ l1101, l1101 = l1100 ++ wordsL [xi, xp, xt] := ⟨_, rfl⟩
                rw [← hl1101] at hi
                have HW1101 := Lib.hid hi
                have HB1101 := Lib.hid (HB1100.out.trans hb)
                have HR1101 := Lib.hid (HR1100.out.fw hf (by decide) (by decide))
                have HL1101 : Hid (l1101.length ≤ 115345) := by
                  show _ ≤ _
                  rw [hl1101, List.length_append]
                  have h1 := HL1100.out
                  have h2 : (wordsL [xi, xp, xt]).length ≤ 3009 := wordsL_len [xi, xp, xt] (three_of (p := fun s => (bl s).length < 1000) HSZ.out.1 HSZ.out.2.1 HSZ.out.2.2)
                  omega
                have HE1101 := Lib.hid hl1101
                have HX1101 := Lib.hid (HX1100.out.fw hf (by decide) (by decide))
                have HF1101 := Lib.hid (HF1100.out.trans hf)
                clear hi hb hf hl1101
                go_wp2_with fail
                go_roundw
                case rel =>
                  refine ⟨k + 1, by omega, by go_num, ?_, HB1101.out, HF1101.out⟩
                  show WrI _ _ _ _
                  rw [HTK.out, ← List.append_assoc, HE0.out]
                  have e1 : l1101 = l1100 ++ itemL n.items[k] := by
                    rw [HE1101.out]
                    rw [HXE.out]; simp [wordsL]
                  rw [← e1]
                  exact HW1101.out
                case measure => simp [intOf]; omega
              · have ck : decide ((k : Int) < (n.items.length : Int)) = false := by rw [decide_eq_false_iff_not]; omega
                have hkl : k = n.items.length := by omega
                subst hkl
                rw [List.take_length] at HWk
                have hll : (l11 ++ n.items.flatMap itemL).length ≤ 112336 := by
                  have h1 := flat_le (g := itemL) (c := 3009) n.items (fun a ha => itemL_le (HS.out.item a ha))
                  have h2 := HL11.out
                  rw [List.length_append]
                  have h3 : 3009 * n.items.length ≤ 3009 * 8 := Nat.mul_le_mul_left _ hfl
                  omega
                obtain ⟨l12, hl12⟩ : ∃ l0, l0 = l11 ++ n.items.flatMap itemL := ⟨_, rfl⟩
                rw [← hl12] at HWk hll
                have HE12 := Lib.hid hl12
                have HL12 := Lib.hid hll
                have HW12 := HWk
                have HB12 := HBk
                have HR12 := Lib.hid (HR11.out.fw HFk.out (by decide) (by decide))
                clear hl12 hll
                obtain ⟨w12, hwx⟩ : ∃ x, x = wr := ⟨_, rfl⟩
                rw [← hwx] at HW12 HB12 HR12 ⊢
                clear hwx HWk HBk HFk
                have he : l12 = encL n := by
                  rw [HENC.out, HE12.out, HE11.out, HE10.out, HE9.out, HE8.out, HE7.out, HE6.out, HE5.out, HE4.out, HE3.out, HE2.out]
                  simp [wordsL, bl_of]
                have hne : l12 ≠ [] := by
                  intro h0
                  have h1 := HENC.out
                  rw [← he, h0] at h1
                  have h2 := congrArg List.length h1
                  unfold wordL at h2
                  simp at h2
                have HSt := Lib.hid (builderString_any w.heap.size b l12 w12 HW12.out hne)
                rw [he] at HSt
                clear he hne
                go_wp2_with fail
                (with_reducible refine HSt.out.mono ?_)
                rintro e wz ⟨rfl, hbz⟩
                have HBz := Lib.hid (HB12.out.trans hbz)
                clear hbz
                go_wp2_with fail
                go_returns
                exact ⟨rfl, HBz.out⟩
end Go.Proofs.YtpjaopcgoaannaaGreatDoor
