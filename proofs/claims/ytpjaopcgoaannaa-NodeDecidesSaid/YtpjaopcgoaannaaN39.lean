/- What an edit that is done asked for and leaves: a right node, texts of no impossible size. -/
import Derived.Test.YtpjaopcgoaannaaN34
import Derived.Test.YtpjaopcgoaannaaN25
namespace Go.Proofs.Ytpjaopcgoaannaa
open Go.RowKit Go.Lib
open Hb

theorem right_of {p : Preds} {n : PNode} {x : PEdit} (hc : (doN p n x).2 = 0) : rightN p n = true := by
  have own : ∀ {r : PNode × Int}, (if ownerN p n x.by_ != 0 then (noNode, ownerN p n x.by_) else r).2 = 0 → rightN p n = true := fun h => ((owner_no n x.by_).1 (owner_of h rfl)).1
  have pub : ∀ {k : Int} {r : PNode × Int}, (if publisherN p n x.by_ k != 0 then (noNode, publisherN p n x.by_ k) else r).2 = 0 → rightN p n = true := fun h => ((publisher_no n x.by_ _).1 (publisher_of h rfl)).1
  unfold doN at hc
  repeat' split at hc
  · unfold subscribeN at hc
    split at hc
    · exact absurd hc (by decide)
    · rename_i h
      simp only [Bool.or_eq_true, Bool.not_eq_true', not_or, Bool.not_eq_false] at h
      exact h.1.1.1
  · unfold unsubscribeN at hc
    split at hc
    · exact absurd hc (by decide)
    · rename_i h
      simpa using h
  · exact own hc
  · exact own hc
  · exact pub hc
  · exact pub hc
  · exact pub hc
  · exact own hc

theorem mem_newest {l : List PItem} {k : Int} {x : PItem} (h : x ∈ newestL l k) : x ∈ l := List.mem_of_mem_drop h
theorem done_node {p : Preds} {n : PNode} {x : PEdit} (hc : (doN p n x).2 = 0) :
    (doN p n x).1.name = n.name ∧ (doN p n x).1.parent = n.parent ∧ (∀ a ∈ (doN p n x).1.affs, a ∈ n.affs ∨ a.jid = x.who) ∧ (∀ a ∈ (doN p n x).1.subs, a.jid = x.who ∨ ∃ b ∈ n.subs, b.jid = a.jid) ∧ (∀ a ∈ (doN p n x).1.items, a ∈ n.items ∨ (a.id = x.item ∧ a.pub = x.by_ ∧ a.text = x.text)) := by
  have old : n.name = n.name ∧ n.parent = n.parent ∧ (∀ a ∈ n.affs, a ∈ n.affs ∨ a.jid = x.who) ∧ (∀ a ∈ n.subs, a.jid = x.who ∨ ∃ b ∈ n.subs, b.jid = a.jid) ∧ (∀ a ∈ n.items, a ∈ n.items ∨ (a.id = x.item ∧ a.pub = x.by_ ∧ a.text = x.text)) :=
    ⟨rfl, rfl, fun _ h => .inl h, fun a h => .inr ⟨a, h, rfl⟩, fun _ h => .inl h⟩
  generalize hr : doN p n x = r at hc ⊢
  unfold doN at hr
  repeat' split at hr
  · unfold subscribeN at hr
    repeat' split at hr
    all_goals subst hr
    all_goals first | (exact absurd hc (by decide)) | skip
    · refine ⟨rfl, rfl, old.2.2.1, fun a ha => ?_, old.2.2.2.2⟩
      rcases setL_mem _ _ _ ha with rfl | ha
      · rename_i h; exact .inr ⟨_, (sub_is h).1, rfl⟩
      · exact .inr ⟨a, ha, rfl⟩
    · refine ⟨rfl, rfl, old.2.2.1, fun a ha => ?_, old.2.2.2.2⟩
      rcases setL_mem _ _ _ ha with rfl | ha
      · exact .inl rfl
      · exact .inr ⟨a, ha, rfl⟩
  · unfold unsubscribeN at hr
    repeat' split at hr
    all_goals subst hr
    all_goals first | (exact absurd hc (by decide)) | skip
    exact ⟨rfl, rfl, old.2.2.1, fun a ha => .inr ⟨a, (mem_dropL ha).1, rfl⟩, old.2.2.2.2⟩
  · unfold decideN at hr
    repeat' split at hr
    all_goals subst hr
    · rename_i h; simp_all
    · exact absurd hc (by decide)
    · rename_i h _
      simp only [Bool.or_eq_true, Bool.not_eq_true', not_or, Bool.not_eq_false] at h
      refine ⟨rfl, rfl, old.2.2.1, fun a ha => ?_, old.2.2.2.2⟩
      rcases setL_mem _ _ _ ha with rfl | ha
      · exact .inr ⟨_, (sub_is h.1).1, rfl⟩
      · exact .inr ⟨a, ha, rfl⟩
    · exact ⟨rfl, rfl, old.2.2.1, fun a ha => .inr ⟨a, (mem_dropL ha).1, rfl⟩, old.2.2.2.2⟩
  · unfold affiliateN at hr
    repeat' split at hr
    all_goals subst hr
    all_goals first | (exact absurd hc (by decide)) | skip
    · rename_i h; simp_all
    all_goals
      refine ⟨rfl, rfl, fun a ha => ?_, fun a ha => ?_, old.2.2.2.2⟩
      · change a ∈ newAffs n x.who x.role at ha
        unfold newAffs at ha
        split at ha
        · exact .inl (mem_dropL ha).1
        · rcases setL_mem _ _ _ ha with rfl | ha
          · exact .inr rfl
          · exact .inl ha
      · first | exact .inr ⟨a, ha, rfl⟩ | exact .inr ⟨a, (mem_dropL ha).1, rfl⟩
  · unfold publishN at hr
    repeat' split at hr
    all_goals subst hr
    · rename_i h; simp_all
    · exact absurd hc (by decide)
    · refine ⟨rfl, rfl, old.2.2.1, old.2.2.2.1, fun a ha => ?_⟩
      rcases List.mem_append.1 (mem_newest ha) with ha | ha
      · exact .inl (mem_dropL ha).1
      · obtain rfl : a = ⟨x.item, x.by_, x.text⟩ := by simpa using ha
        exact .inr ⟨rfl, rfl, rfl⟩
  · unfold retractN at hr
    repeat' split at hr
    all_goals subst hr
    · rename_i h; simp_all
    · exact absurd hc (by decide)
    · exact ⟨rfl, rfl, old.2.2.1, old.2.2.2.1, fun a ha => .inl (mem_dropL ha).1⟩
  · unfold purgeN at hr
    repeat' split at hr
    all_goals subst hr
    · rename_i h; simp_all
    · exact ⟨rfl, rfl, old.2.2.1, old.2.2.2.1, fun a ha => by cases ha⟩
  · unfold configureN at hr
    repeat' split at hr
    all_goals subst hr
    · rename_i h; simp_all
    · exact absurd hc (by decide)
    · exact ⟨rfl, rfl, old.2.2.1, old.2.2.2.1, fun a ha => .inl (mem_newest ha)⟩

theorem bd_do {n : PNode} {x : PEdit} (hb : Bd n) (hx : SmX x) (hc : (doN pr n x).2 = 0) : RightP pr (doN pr n x).1 ∧ Bd (doN pr n x).1 := by
  have hr := (right_iff pr n).1 (right_of hc)
  have hd := do_done hr x
  have hR : RightP pr (doN pr n x).1 := by
    rcases hd with ⟨h, _⟩ | ⟨_, h, _⟩
    · exact absurd hc h
    · exact h
  obtain ⟨h1, h2, h3, h4, h5⟩ := done_node (p := pr) hc
  refine ⟨hR, bd_of (n := n) hR (by rw [h1]; exact hb.name) (by rw [h2]; exact hb.parent) ?_ ?_ ?_⟩
  · intro a ha
    rcases h3 a ha with h | h
    · exact hb.aff a h
    · rw [h]; exact hx.who
  · intro a ha
    rcases h4 a ha with h | ⟨b, hb2, h⟩
    · rw [h]; exact hx.who
    · rw [← h]; exact hb.sub b hb2
  · intro a ha
    rcases h5 a ha with h | ⟨e1, e2, e3⟩
    · exact hb.item a h
    · rw [e1, e2, e3]; exact ⟨hx.item, hx.by_, hx.text⟩
end Go.Proofs.Ytpjaopcgoaannaa
