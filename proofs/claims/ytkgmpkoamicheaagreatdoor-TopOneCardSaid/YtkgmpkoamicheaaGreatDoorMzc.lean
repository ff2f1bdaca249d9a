/- Functions that are told by a law: of one text alone; the machine's own search of a byte. No program in it. -/
import Derived.Test.YtkgmpkoamicheaaGreatDoorMzb
import Derived.Laws.StandIn
namespace Go.Proofs.YtkgmpkoamicheaaGreatDoor.M
section
variable {P : Program}
theorem Stp.of_below {base : Nat} {m : Mu} {H : AHeap} {w w' : World} (hR : R base m H w) (h : RowKit.Below w.heap.size w w') (N : Nat → Prop) : Stp base m H w m H w' N := by
  have hlt : ∀ {b B l}, H.get b = some B → m b = some l → l.blk < w.heap.size := fun {b B l} hb hl => by
    have hB := (hR.at hb hl).2
    rcases Nat.lt_or_ge l.blk w.heap.size with q | q
    · exact q
    · have hn := Array.getElem?_eq_none q
      cases B with
      | cells n t e g =>
        obtain ⟨cs, ⟨fz, hh, _⟩, _⟩ := hB.cells
        rw [hn] at hh; cases hh
      | map es bs clk => obtain ⟨_, hh, _⟩ := hB; rw [hn] at hh; cases hh
      | mit mb a s b => obtain ⟨_, _, hh⟩ := hB; rw [hn] at hh; cases hh
      | siter s p => obtain ⟨_, hh⟩ := hB; rw [hn] at hh; cases hh
      | loop r => obtain ⟨_, hh, _⟩ := hB; rw [hn] at hh; cases hh
      | dfr => have hh : w.heap[l.blk]? = _ := hB; rw [hn] at hh; cases hh
  refine ⟨Ext.refl m N, ⟨fun b B hb => ?_, hR.inj⟩, ⟨h.os, h.tape, h.output, h.size, fun i hi _ => h.block i hi⟩, fun b B l hb hl => .inr ⟨b, B, l, hb, hl, rfl⟩⟩
  obtain ⟨l, hl, h1, h2⟩ := hR.live b B hb
  exact ⟨l, hl, h1, h2.same (h.block _ (hlt hb hl))⟩
/-- a function of one text that answers by the text alone -/
noncomputable def lawStr (g : ByteArray → Value) (most : Nat) : List Value → AHeap → Option (Ret × AHeap) := fun args H =>
  match args with
  | [.string s] => match Nat.ble s.size most && plainV (g s) with
    | true => some (.ret (g s), H)
    | false => none
  | _ => none
theorem lawStr_ok {f : FuncId} {F : Func} {c : Code} (hf : P.funcs[f]? = some F) (hb : F.body = some c) (hn : (F.name == "runtime.NumGoroutine") = false) {g : ByteArray → Value} {most : Nat}
    (h : ∀ (s : ByteArray) (w : World), s.size ≤ most → Calls P f #[.string s] w fun e w' => e = .returned (g s) ∧ RowKit.Below w.heap.size w w') : LawOk P f (lawStr g most) := by
  intro base m H w args args' r H1 hR hb' hfr ha hk
  unfold lawStr at hk
  split at hk
  case h_2 => cases hk
  rename_i s
  split at hk
  case h_2 => cases hk
  rename_i hg
  simp only [Bool.and_eq_true] at hg
  obtain ⟨rfl, rfl⟩ := Prod.mk.inj (Option.some.inj hk)
  obtain ⟨v', y, e1, g1, g2⟩ := ha.cons_inv
  obtain rfl := g2.nil_inv
  cases g1
  have e2 : args' = #[.string s] := by
    obtain ⟨l⟩ := args'
    simp only at e1
    rw [e1]
  subst e2
  rw [run_enter hf hb hn]
  refine Calls.mono (h s w (Nat.le_of_ble_eq_true hg.1)) fun e w' he => ?_
  obtain ⟨rfl, hbl⟩ := he
  exact ⟨g s, m, rfl, plainV_VR m hg.2, Stp.of_below hR hbl _, hfr, Nat.le_refl _⟩
noncomputable def lawIdx : List Value → AHeap → Option (Ret × AHeap) := fun args H =>
  match args with
  | [.string s, .int .u8 c] => some (.ret (.int .i64 (firstIdx s c.toNat.toUInt8)), H)
  | _ => none
theorem lawIdx_ok {f : FuncId} {F : Func} (hf : P.funcs[f]? = some F) (hn : (F.name == "runtime.NumGoroutine") = false) (hb : F.body.isNone = true) (hx : Extern.findNext F = none) (he : Extern.find F = some Extern.BytealgIndexByte.indexByte) : LawOk P f lawIdx := by
  intro base m H w args args' r H1 hR hb' hfr ha hk
  unfold lawIdx at hk
  split at hk
  case h_2 => cases hk
  rename_i s c
  obtain ⟨rfl, rfl⟩ := Prod.mk.inj (Option.some.inj hk)
  obtain ⟨v', y, e1, g1, g2⟩ := ha.cons_inv
  obtain ⟨u', z, e2, g3, g4⟩ := g2.cons_inv
  obtain rfl := g4.nil_inv
  subst e2
  cases g1
  cases g3
  have e3 : args' = #[.string s, .int .u8 c] := by
    obtain ⟨l⟩ := args'
    simp only at e1
    rw [e1]
  subst e3
  rw [run_callFunc_indexByte hf hn hb hx he, run_indexByte_string]
  exact ⟨_, m, rfl, .int _ _, Stp.refl hR _, hfr, Nat.le_refl _⟩
end
end Go.Proofs.YtkgmpkoamicheaaGreatDoor.M
