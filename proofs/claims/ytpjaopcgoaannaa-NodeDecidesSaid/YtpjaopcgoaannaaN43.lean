/- NodeDecides: the plain law. No program in it. -/
import Derived.Test.YtpjaopcgoaannaaN34
namespace Go.Proofs.Ytpjaopcgoaannaa
open Go.RowKit Go.Lib
open Hb

theorem find_mem {l : List PAff} (h : Ris PAff.jid l) {a : PAff} (ha : a ∈ l) : l.find? (fun b => eqS b.jid a.jid) = some a := by
  induction l with
  | nil => cases ha
  | cons b r ih =>
    rw [List.find?_cons]
    rw [show Ris PAff.jid (b :: r) ↔ _ from List.pairwise_cons] at h
    rcases List.mem_cons.1 ha with rfl | ha
    · rw [eqS_refl]
    · rw [ltS_ne (h.1 a ha)]
      exact ih h.2 ha
/-- the last owner of a row -/
def lastOw (l : List PAff) : ByteArray := l.foldl (fun o a => if a.role == 5 then a.jid else o) ⟨#[]⟩
theorem lastOw_take {l : List PAff} {j : Nat} (h : j < l.length) : lastOw (l.take (j + 1)) = if l[j].role == 5 then l[j].jid else lastOw (l.take j) := by
  unfold lastOw
  rw [← List.take_append_getElem h, List.foldl_append]
  rfl
theorem lastOw_mem : ∀ (l : List PAff) (o : ByteArray), (∃ a ∈ l, a.role = 5) → ∃ a ∈ l, a.role = 5 ∧ l.foldl (fun o a => if a.role == 5 then a.jid else o) o = a.jid
  | [], _, h => by obtain ⟨_, h, _⟩ := h; cases h
  | b :: r, o, h => by
    rw [List.foldl_cons]
    by_cases hr : ∃ a ∈ r, a.role = 5
    · obtain ⟨a, ha, h5, he⟩ := lastOw_mem r (if b.role == 5 then b.jid else o) hr
      exact ⟨a, .tail _ ha, h5, he⟩
    · obtain ⟨a, ha, h5⟩ := h
      rcases List.mem_cons.1 ha with rfl | ha
      · refine ⟨a, .head _, h5, ?_⟩
        rw [h5]
        have : ∀ (q : List PAff) (o : ByteArray), (¬ ∃ a ∈ q, a.role = 5) → q.foldl (fun o a => if a.role == 5 then a.jid else o) o = o := by
          intro q
          induction q with
          | nil => intro o _; rfl
          | cons c q ih =>
            intro o hq
            rw [List.foldl_cons, ih _ (fun ⟨a, ha, h⟩ => hq ⟨a, .tail _ ha, h⟩), if_neg]
            intro hc
            exact hq ⟨c, .head _, by simpa using hc⟩
        exact this r _ hr
      · exact absurd ⟨a, ha, h5⟩ hr
theorem owner_role {p : Preds} {n : PNode} (h : RightP p n) : roleN n (lastOw n.affs) = 5 := by
  obtain ⟨a, ha, h5, he⟩ := lastOw_mem n.affs ⟨#[]⟩ h.owned
  unfold roleN lastOw
  rw [he, find_mem h.affRis ha]
  exact h5

structure Decided (p : Preds) (n m : PNode) (ow who : ByteArray) (yes : Bool) : Prop where
  has : (subN m who).2 = yes
  pend : (subN m who).1.pending = false
  again : (decideN p m ow who yes).2 = 4
  depth : yes = true → (subN m who).1.depth = (subN n who).1.depth
theorem decides_law {p : Preds} {n : PNode} (h : RightP p n) (ow who : ByteArray) (yes : Bool) (ho : roleN n ow = 5) :
    ((subN n who).2 = false ∨ (subN n who).1.pending = false → decideN p n ow who yes = (noNode, 4)) ∧
    ((subN n who).2 = true → (subN n who).1.pending = true → (decideN p n ow who yes).2 = 0 ∧ Decided p n (decideN p n ow who yes).1 ow who yes) := by
  have hn : ownerN p n ow = 0 := (owner_no n ow).2 ⟨(right_iff p n).2 h, ho⟩
  constructor
  · intro hb
    unfold decideN
    rw [if_neg (by rw [hn]; decide), if_pos]
    rcases hb with hb | hb <;> simp [hb]
  · intro h1 h2
    have hd := decide_done h ow who yes
    cases yes with
    | true =>
      have e : decideN p n ow who true = ({ n with subs := setL PSub.jid ⟨(subN n who).1.jid, false, (subN n who).1.depth⟩ n.subs }, 0) := by
        unfold decideN
        rw [if_neg (by rw [hn]; decide), if_neg (by simp [h1, h2])]
        rfl
      rw [e] at hd ⊢
      obtain ⟨hm, hj, _⟩ := sub_is h1
      have hR : RightP p { n with subs := setL PSub.jid ⟨(subN n who).1.jid, false, (subN n who).1.depth⟩ n.subs } := by
        rcases hd with ⟨h0, _⟩ | ⟨_, h0, _⟩
        · exact absurd rfl h0
        · exact h0
      have hs : subN { n with subs := setL PSub.jid ⟨(subN n who).1.jid, false, (subN n who).1.depth⟩ n.subs } who = (⟨(subN n who).1.jid, false, (subN n who).1.depth⟩, true) := by
        show (match (setL PSub.jid ⟨(subN n who).1.jid, false, (subN n who).1.depth⟩ n.subs).find? (fun a => eqS a.jid who) with | some a => (a, true) | none => _) = _
        rw [find_setL (of := PSub.jid) ⟨(subN n who).1.jid, false, (subN n who).1.depth⟩ who (eqS_iff.2 hj)]
      refine ⟨rfl, ?_, ?_, ?_, ?_⟩
      · rw [hs]
      · rw [hs]
      · have hn2 : ownerN p { n with subs := setL PSub.jid ⟨(subN n who).1.jid, false, (subN n who).1.depth⟩ n.subs } ow = 0 := (owner_no _ ow).2 ⟨(right_iff p _).2 hR, ho⟩
        unfold decideN
        rw [if_neg (by rw [hn2]; decide), hs, if_pos (by rfl)]
      · intro _
        rw [hs]
    | false =>
      have e : decideN p n ow who false = ({ n with subs := dropL PSub.jid who n.subs }, 0) := by
        unfold decideN
        rw [if_neg (by rw [hn]; decide), if_neg (by simp [h1, h2])]
        rfl
      rw [e] at hd ⊢
      have hR : RightP p { n with subs := dropL PSub.jid who n.subs } := by
        rcases hd with ⟨h0, _⟩ | ⟨_, h0, _⟩
        · exact absurd rfl h0
        · exact h0
      have hs : subN { n with subs := dropL PSub.jid who n.subs } who = (⟨⟨#[]⟩, false, 0⟩, false) := by
        show (match (dropL PSub.jid who n.subs).find? (fun a => eqS a.jid who) with | some a => (a, true) | none => _) = _
        rw [find_dropL]
      refine ⟨rfl, ?_, ?_, ?_, fun q => by cases q⟩
      · rw [hs]
      · rw [hs]
      · have hn2 : ownerN p { n with subs := dropL PSub.jid who n.subs } ow = 0 := (owner_no _ ow).2 ⟨(right_iff p _).2 hR, ho⟩
        unfold decideN
        rw [if_neg (by rw [hn2]; decide), hs, if_pos (by rfl)]
end Go.Proofs.Ytpjaopcgoaannaa
