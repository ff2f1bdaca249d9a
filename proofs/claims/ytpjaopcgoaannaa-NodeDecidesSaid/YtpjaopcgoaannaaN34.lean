/- NodeMay: the plain law. No program in it. -/
import Derived.Test.YtpjaopcgoaannaaN31
namespace Go.Proofs.Ytpjaopcgoaannaa
open Go.RowKit Go.Lib
open Hb

theorem publisher_of {p : Preds} {n : PNode} {by_ : ByteArray} {k : Int} {r : PNode × Int} {c : Int} (hc : (if publisherN p n by_ k != 0 then (noNode, publisherN p n by_ k) else r).2 = c) (h0 : c = 0) : publisherN p n by_ k = 0 := by
  subst h0
  split at hc
  · exact hc
  · rename_i h; simpa using h
theorem owner_of {p : Preds} {n : PNode} {by_ : ByteArray} {r : PNode × Int} {c : Int} (hc : (if ownerN p n by_ != 0 then (noNode, ownerN p n by_) else r).2 = c) (h0 : c = 0) : ownerN p n by_ = 0 := by
  subst h0
  split at hc
  · exact hc
  · rename_i h; simpa using h
theorem role_le {p : Preds} {n : PNode} (h : RightP p n) (who : ByteArray) : roleN n who ≤ 5 := by
  unfold roleN
  cases hf : n.affs.find? (fun a => eqS a.jid who) with
  | none => decide
  | some a =>
    have := h.roles a (List.mem_of_find?_eq_some hf)
    unfold roleOk at this
    simp only [Bool.or_eq_true, beq_iff_eq] at this
    show a.role ≤ 5
    omega
theorem may_law {p : Preds} {n : PNode} {x : PEdit} (hc : (doN p n x).2 = 0) : ((x.kind = 4 ∨ x.kind = 5) → 4 ≤ roleN n x.by_) ∧ ((x.kind = 2 ∨ x.kind = 3 ∨ x.kind < 0 ∨ 5 < x.kind) → roleN n x.by_ = 5) := by
  constructor
  · rintro (h | h)
    · unfold doN at hc
      rw [h] at hc
      change (publishN p n x.by_ x.item x.text).2 = 0 at hc
      unfold publishN at hc
      exact ((publisher_no n x.by_ 4).1 (publisher_of hc rfl)).2.2
    · unfold doN at hc
      rw [h] at hc
      change (retractN p n x.by_ x.item).2 = 0 at hc
      unfold retractN at hc
      exact ((publisher_no n x.by_ 4).1 (publisher_of hc rfl)).2.2
  · intro hk
    have own : ∀ {r : PNode × Int}, (if ownerN p n x.by_ != 0 then (noNode, ownerN p n x.by_) else r).2 = 0 → roleN n x.by_ = 5 := fun h => ((owner_no n x.by_).1 (owner_of h rfl)).2
    unfold doN at hc
    by_cases h2 : x.kind = 2
    · rw [h2] at hc
      change (decideN p n x.by_ x.who x.yes).2 = 0 at hc
      exact own hc
    by_cases h3 : x.kind = 3
    · rw [h3] at hc
      change (affiliateN p n x.by_ x.who x.role).2 = 0 at hc
      exact own hc
    by_cases h6 : x.kind = 6
    · rw [h6] at hc
      change (purgeN p n x.by_).2 = 0 at hc
      unfold purgeN at hc
      have h := (publisher_no n x.by_ 5).1 (publisher_of hc rfl)
      have := role_le ((right_iff p n).1 h.1) x.by_
      omega
    rw [if_neg (by rw [beq_iff_eq]; omega), if_neg (by rw [beq_iff_eq]; omega), if_neg (by rw [beq_iff_eq]; omega), if_neg (by rw [beq_iff_eq]; omega), if_neg (by rw [beq_iff_eq]; omega), if_neg (by rw [beq_iff_eq]; omega), if_neg (by rw [beq_iff_eq]; omega)] at hc
    exact own hc
end Go.Proofs.Ytpjaopcgoaannaa
