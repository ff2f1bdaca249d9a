/- No function of the program starts a goroutine: the card's fact on that, whatever the law. -/
import Derived.Test.YtkgmpkoamicheaaGreatDoorRows
import Derived.KernelRfl
import GoSem.ClaimGoes
namespace Go.Proofs.YtkgmpkoamicheaaGreatDoor
theorem goes_none {P : Program} (h : P.funcs.toList.all (fun F => !F.goes) = true) (func : String) : false = P.goesAt .entering func := by
  have h0 : ∀ F ∈ P.funcs.toList, F.goes = false := fun F hF => by simpa using List.all_eq_true.1 h F hF
  have h1 : ∀ f, P.goes f = false := fun f => by
    unfold Program.goes
    have a1 : ((P.closure f).any fun g => (P.funcs[g]?).any Func.goes) = false := by
      rw [List.any_eq_false]
      intro g _
      cases hg : P.funcs[g]? with
      | none => simp
      | some F => simpa using h0 F (by simpa using Array.mem_of_getElem? hg)
    have a2 : P.funcs.any Func.goes = false := by
      rw [Array.any_eq_false]
      intro i hi
      simpa using h0 P.funcs[i] (by simp)
    rw [a1, a2, Bool.and_false]; rfl
  unfold Program.goesAt Program.goesFrom
  cases P.funcNamed func with
  | none => rfl
  | some f => simp [h1 f]
theorem goesAt0 : (((Tryz.pinned.checked.prog.funcs.toList.drop 0).take 60).all fun F => !F.goes) = true := by kernel_rfl
theorem goesAt60 : (((Tryz.pinned.checked.prog.funcs.toList.drop 60).take 60).all fun F => !F.goes) = true := by kernel_rfl
theorem goesAt120 : (((Tryz.pinned.checked.prog.funcs.toList.drop 120).take 60).all fun F => !F.goes) = true := by kernel_rfl
theorem goesAt180 : (((Tryz.pinned.checked.prog.funcs.toList.drop 180).take 60).all fun F => !F.goes) = true := by kernel_rfl
theorem goesAt240 : (((Tryz.pinned.checked.prog.funcs.toList.drop 240).take 60).all fun F => !F.goes) = true := by kernel_rfl
theorem goesAt300 : (((Tryz.pinned.checked.prog.funcs.toList.drop 300).take 60).all fun F => !F.goes) = true := by kernel_rfl
theorem goesAt360 : (((Tryz.pinned.checked.prog.funcs.toList.drop 360).take 60).all fun F => !F.goes) = true := by kernel_rfl
theorem goesAt420 : (((Tryz.pinned.checked.prog.funcs.toList.drop 420).take 60).all fun F => !F.goes) = true := by kernel_rfl
theorem goesAt480 : (((Tryz.pinned.checked.prog.funcs.toList.drop 480).take 60).all fun F => !F.goes) = true := by kernel_rfl
theorem drop_nil : Tryz.pinned.checked.prog.funcs.toList.drop 540 = [] := by kernel_rfl
theorem all_drop {α : Type} {p : α → Bool} {l : List α} {i k : Nat} (h : ((l.drop i).take k).all p = true) (g : (l.drop (i + k)).all p = true) : (l.drop i).all p = true := by
  rw [← List.take_append_drop k (l.drop i), List.all_append, h, List.drop_drop, g]; rfl
theorem goes_all : (Tryz.pinned.checked.prog.funcs.toList.all fun F => !F.goes) = true := by
  have h := (all_drop (i := 0) (k := 60) goesAt0 (all_drop (i := 60) (k := 60) goesAt60 (all_drop (i := 120) (k := 60) goesAt120 (all_drop (i := 180) (k := 60) goesAt180 (all_drop (i := 240) (k := 60) goesAt240 (all_drop (i := 300) (k := 60) goesAt300 (all_drop (i := 360) (k := 60) goesAt360 (all_drop (i := 420) (k := 60) goesAt420 (all_drop (i := 480) (k := 60) goesAt480 (by rw [drop_nil]; rfl))))))))))
  rwa [List.drop_zero] at h
theorem goes_no (func : String) : false = Tryz.pinned.checked.prog.goesAt .entering func := goes_none goes_all func
end Go.Proofs.YtkgmpkoamicheaaGreatDoor
