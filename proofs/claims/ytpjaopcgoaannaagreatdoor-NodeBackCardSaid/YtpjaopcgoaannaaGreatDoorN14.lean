/- node.Address. -/
import Derived.Test.YtpjaopcgoaannaaGreatDoorN13
namespace Go.Proofs.YtpjaopcgoaannaaGreatDoor
open Go.RowKit Go.Lib
open Hb

theorem jidRight_sizes {l d r : ByteArray} (h : jidRight l d r = true) : l.size ≤ 64 ∧ d.size ≤ 64 := by
  unfold jidRight at h
  simp only [Bool.and_eq_true, Bool.or_eq_true, decide_eq_true_eq] at h
  refine ⟨?_, part_size h.1.1.1⟩
  rcases h.1.1.2 with h | h
  · omega
  · exact part_size h
theorem parse_sizes {s l d r : ByteArray} (h : parseB s = some (l, d, r)) : l.size ≤ 64 ∧ d.size ≤ 64 := by
  unfold parseB at h
  split at h
  · cases h
  · split at h
    · split at h
      · cases h
      · split at h
        · rename_i hj
          cases h
          exact jidRight_sizes hj
        · cases h
    · split at h
      · rename_i hj
        cases h
        exact jidRight_sizes hj
      · cases h

set_option maxRecDepth 100000 in
set_option maxHeartbeats 4000000 in
theorem addr_any (s : ByteArray) (w : World) (hs : s.size ≤ 9223372036854775806) :
    Calls Tryz.prog 28 #[.string s] w fun e w' => e = .returned (.bool (addrB s)) ∧ Below w.heap.size w w' := by
  have hP := parse_any s w hs
  have mixed : Tryz.prog.follows .mixedOrders = true := by kernel_rfl
  cases hq : parseB s with
  | none =>
    have ha : addrB s = false := by unfold addrB; rw [hq]
    rw [hq] at hP
    rw [ha]
    have HP : Hid (Calls Tryz.prog 47 #[.string s] w fun e w' => e = .returned (.tuple #[.agg #[.string ⟨#[]⟩, .string ⟨#[]⟩, .string ⟨#[]⟩], .int .i64 3]) ∧ Below w.heap.size w w') := hP
    clear ha hP hq
    go_enter Tryz.func28, Tryz.ntmps28
    go_wp2_with fail
    (with_reducible refine HP.out.mono ?_)
    rintro e w1 ⟨rfl, hB⟩
    go_wp2_with fail
    have HR : Hid (RowI (w1.alloc (.cells #[.string ⟨#[]⟩, .string ⟨#[]⟩, .string ⟨#[]⟩] 97)).drew w1.heap.size 97 3 [.string ⟨#[]⟩, .string ⟨#[]⟩, .string ⟨#[]⟩]) := RowI.new w1 _ [.string ⟨#[]⟩, .string ⟨#[]⟩, .string ⟨#[]⟩] []
    have HBx : Hid (Below w.heap.size w (w1.alloc (.cells #[.string ⟨#[]⟩, .string ⟨#[]⟩, .string ⟨#[]⟩] 97)).drew) := (hB.alloc hB.size _).drew
    have c0 := HR.out.at 0 _ rfl
    have c1 := HR.out.at 1 _ rfl
    have c2 := HR.out.at 2 _ rfl
    go_quiet (fail)
    all_goals go_wp2_with fail
    all_goals go_returns
    all_goals exact ⟨rfl, bdrewN (hB.alloc hB.size _) _⟩
  | some j =>
    obtain ⟨l, d, r⟩ := j
    obtain ⟨hl, hd⟩ := parse_sizes hq
    have ha : addrB s = (eqS (lowB l) l && eqS (lowB d) d && eqS ⟨#[]⟩ r) := by unfold addrB; rw [hq, eqS_comm ⟨#[]⟩ r]
    rw [hq] at hP
    rw [ha]
    have HP : Hid (Calls Tryz.prog 47 #[.string s] w fun e w' => e = .returned (.tuple #[.agg #[.string l, .string d, .string r], .int .i64 0]) ∧ Below w.heap.size w w') := hP
    have HBr : Hid (∀ W, Calls Tryz.prog 49 #[.agg #[.string l, .string d, .string r]] W fun e w' => e = .returned (.agg #[.string l, .string d, .string ⟨#[]⟩]) ∧ Below W.heap.size W w') := fun W => bare_any l d r W
    have HNo : Hid (∀ W, Calls Tryz.prog 48 #[.agg #[.string l, .string d, .string ⟨#[]⟩]] W fun e w' => e = .returned (.agg #[.string (lowB l), .string (lowB d), .string ⟨#[]⟩]) ∧ Below W.heap.size W w') := fun W => normal_any l d ⟨#[]⟩ W hl hd
    have hc : ∀ W, (binOp .eql 97 (.agg #[.string (lowB l), .string (lowB d), .string ⟨#[]⟩]) (.agg #[.string l, .string d, .string r])).run Tryz.prog W = .ok (.bool (eqS (lowB l) l && eqS (lowB d) d && eqS ⟨#[]⟩ r)) W := fun W => eql_jid _ _ _ _ _ _ W
    clear ha hP hq hl hd
    generalize (eqS (lowB l) l && eqS (lowB d) d && eqS ⟨#[]⟩ r) = z at *
    go_enter Tryz.func28, Tryz.ntmps28
    go_wp2_with fail
    (with_reducible refine HP.out.mono ?_)
    rintro e w1 ⟨rfl, hB⟩
    go_wp2_with fail
    have HR : Hid (RowI (w1.alloc (.cells #[.string l, .string d, .string r] 97)).drew w1.heap.size 97 3 [.string l, .string d, .string r]) := RowI.new w1 _ [.string l, .string d, .string r] []
    have HBx : Hid (Below w.heap.size w (w1.alloc (.cells #[.string l, .string d, .string r] 97)).drew) := (hB.alloc hB.size _).drew
    have c0 := HR.out.at 0 _ rfl
    have c1 := HR.out.at 1 _ rfl
    have c2 := HR.out.at 2 _ rfl
    go_region_held3 (fun W => W.cell? ⟨w1.heap.size, 0, none⟩ = some (.string l) ∧ W.cell? ⟨w1.heap.size, 1, none⟩ = some (.string d) ∧ W.cell? ⟨w1.heap.size, 2, none⟩ = some (.string r)) (with_reducible refine ⟨?_, ?_, ?_⟩ <;> assumption) (first
      | (go_at_call 49; (with_reducible refine (HBr.out _).mono ?_); rintro e wA ⟨rfl, hA⟩; have BA := Lib.hid (HBx.out.trans (hA.mono HBx.out.size)); have RA := Lib.hid (HR.out.below hA); have cA0 := RA.out.at 0 _ rfl; have cA1 := RA.out.at 1 _ rfl; have cA2 := RA.out.at 2 _ rfl)
      | (go_at_call 48; (with_reducible refine (HNo.out _).mono ?_); rintro e wC ⟨rfl, hC⟩; have BC := Lib.hid (BA.out.trans (hC.mono BA.out.size)); have RC := Lib.hid (RA.out.below hC); have cC0 := RC.out.at 0 _ rfl; have cC1 := RC.out.at 1 _ rfl; have cC2 := RC.out.at 2 _ rfl))
    all_goals go_wp2_with fail
    all_goals go_returns
    all_goals exact ⟨rfl, BC.out⟩
end Go.Proofs.YtpjaopcgoaannaaGreatDoor
