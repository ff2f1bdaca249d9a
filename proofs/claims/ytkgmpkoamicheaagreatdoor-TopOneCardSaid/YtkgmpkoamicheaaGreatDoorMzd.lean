/- A call that the quick way carries out, with arguments that may lie in memory that it does not look at. No program in it. -/
import Derived.Test.YtkgmpkoamicheaaGreatDoorMzc
namespace Go.Proofs.YtkgmpkoamicheaaGreatDoor.M
theorem calls_of_run2 {P : Program} (hm : P.follows .mixedOrders = true) {Pr : Prg} (hT : TabOk P Pr.tab) (hF : FnsOk P Pr.fns) (hL : ∀ f k, Pr.law.get f = some k → LawOk P f k) {fuel n : Nat} {f : FuncId} {fn : Fn1} (hfn : Pr.fns.get f = some fn)
    {m : Mu} (hfr : Fresh m 1) {args : List Value} {args' : Array Value} (ha : VRs m args args'.toList) {v : Value} {H1 : AHeap} (h : enterF Pr fuel (callN Pr fuel n) fn args ⟨1, .emp⟩ = some (.ret v, H1)) (hv : ∀ m v', VR m v v' → v' = v) (w : World) :
    Calls P f args' w fun e w' => e = .returned v ∧ RowKit.Below w.heap.size w w' := by
  obtain ⟨F, g1, g2, g3, g4, g5⟩ := hF f fn hfn
  have h0 : ∀ b, (⟨1, .emp⟩ : AHeap).get b = none := fun b => Tr.get_e b
  have hR : R w.heap.size m ⟨1, .emp⟩ w := ⟨fun b B hb => (by rw [h0] at hb; cases hb), fun b c B C l k hb => (by rw [h0] at hb; cases hb)⟩
  refine Calls.mono (enterF_ok hm hT hF (callN_ok hm hT hF hL n) g1 g2 g3 g4 hR (Nat.le_refl _) hfr ha h) fun e w' he => ?_
  cases e with
  | returned v' =>
    obtain ⟨v0, m', q1, q2, q3, _⟩ := he
    cases q1
    exact ⟨by rw [hv m' v' q2], q3.fr.below hR (Nat.le_refl _)⟩
  | panicked _ => obtain ⟨_, _, _, q1, _⟩ := he; cases q1
  | outgrown => exact he.elim
/-- the memory that is not looked at: one block -/
def mu1 (l : Loc) : Mu := fun b => if b = 0 then some l else none
theorem mu1_fresh (l : Loc) : Fresh (mu1 l) 1 := fun b k h => by
  unfold mu1 at h
  split at h
  · rename_i e; subst e; decide
  · cases h
theorem mu1_slice (blk off n c : Nat) : VR (mu1 ⟨blk, off, none⟩) (.slice (some ⟨0, 0, none⟩) n c) (.slice (some ⟨blk, off, none⟩) n c) := by
  have := VR.sl (m := mu1 ⟨blk, off, none⟩) (b := 0) (o := 0) (n := n) (c := c) (l := ⟨blk, off, none⟩) rfl rfl
  simpa using this
/-- does the quick way answer true? -/
noncomputable def saysTrue (x : Option (Ret × AHeap)) : Bool :=
  match x with
  | some (.ret (.bool b), _) => b
  | _ => false
theorem saysTrue_of {x : Option (Ret × AHeap)} (h : saysTrue x = true) : ∃ H1, x = some (.ret (.bool true), H1) := by
  unfold saysTrue at h
  split at h
  · rename_i b H1; subst h; exact ⟨H1, rfl⟩
  · cases h
end Go.Proofs.YtkgmpkoamicheaaGreatDoor.M
