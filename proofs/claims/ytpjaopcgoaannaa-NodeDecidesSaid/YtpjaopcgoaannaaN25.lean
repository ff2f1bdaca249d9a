/- NodeKeeps: the plain law: the ids of the items are what is wanted. -/
import Derived.Test.YtpjaopcgoaannaaN24
namespace Go.Proofs.Ytpjaopcgoaannaa
open Go.RowKit Go.Lib
open Hb

/-- what every edit leaves: rows of no great length, texts of no impossible size -/
theorem bd_of {n m : PNode} (hm : RightP pr m) (h1 : Sm m.name) (h2 : Sm m.parent) (h3 : ∀ x ∈ m.affs, Sm x.jid) (h4 : ∀ x ∈ m.subs, Sm x.jid) (h5 : ∀ x ∈ m.items, Sm x.id ∧ Sm x.pub ∧ Sm x.text) : Bd m :=
  ⟨h1, h2, h3, h4, h5, by have := hm.affLen; omega, by have := hm.subLen; omega, by have h := hm.most; have hh := hm.head; unfold headN at hh; simp only [Bool.and_eq_true, decide_eq_true_eq] at hh; have h6 := hh.1.2; split at h6 <;> omega⟩

def wantN (k : Nat) (want : List ByteArray) (id : ByteArray) : List ByteArray := (want.filter (fun y => !eqS y id) ++ [id]).drop ((want.filter (fun y => !eqS y id) ++ [id]).length - k)

structure Keep (k : Nat) (n : PNode) (want : List ByteArray) : Prop where
  right : RightP pr n
  bd : Bd n
  coll : n.coll = false
  role : roleN n nA = 5
  max : n.max = k
  ids : n.items.map PItem.id = want
  pub : ∀ x ∈ n.items, x.pub = nA

theorem map_drop_filter (l : List PItem) (id : ByteArray) : (dropL PItem.id id l).map PItem.id = (l.map PItem.id).filter (fun y => !eqS y id) := by
  unfold dropL
  rw [List.filter_map]
  rfl
def xB : ByteArray := ⟨#[120]⟩
theorem xB_body : bodyB xB = true := by decide +kernel
theorem keep_step {k : Nat} {n : PNode} {want : List ByteArray} (h : Keep k n want) (id : ByteArray) (hid : nameB id = true) (hs : Sm id) : (publishN pr n nA id xB).2 = 0 ∧ Keep k (publishN pr n nA id xB).1 (wantN k want id) := by
  have hp : publisherN pr n nA 4 = 0 := (publisher_no n nA 4).2 ⟨(right_iff pr n).2 h.right, h.coll, by rw [h.role]; decide⟩
  have he : publishN pr n nA id xB = ({ n with items := newestL (dropL PItem.id id n.items ++ [⟨id, nA, xB⟩]) n.max }, 0) := by
    unfold publishN
    rw [if_neg (by rw [hp]; decide), if_neg (by show ¬ ((!nameB id || !bodyB xB) = true); rw [hid, xB_body]; decide)]
  have hd := publish_done h.right nA id xB
  rw [he] at hd ⊢
  refine ⟨rfl, ?_⟩
  rcases hd with ⟨h0, _⟩ | ⟨_, hr, _, _⟩
  · exact absurd rfl h0
  have hin : ∀ x ∈ newestL (dropL PItem.id id n.items ++ [(⟨id, nA, xB⟩ : PItem)]) n.max, x ∈ n.items ∨ x = ⟨id, nA, xB⟩ := by
    intro x hx
    have hx := (newest_sub _ _).subset hx
    rcases List.mem_append.1 hx with hx | hx
    · exact .inl (mem_dropL hx).1
    · exact .inr (by simpa using hx)
  refine ⟨hr, bd_of (n := n) hr h.bd.name h.bd.parent h.bd.aff h.bd.sub ?_, h.coll, h.role, h.max, ?_, ?_⟩
  · intro x hx
    rcases hin x hx with hx | rfl
    · exact h.bd.item x hx
    · exact ⟨hs, (by decide : Sm nA), (by decide : Sm xB)⟩
  · show (newestL (dropL PItem.id id n.items ++ [(⟨id, nA, xB⟩ : PItem)]) n.max).map PItem.id = _
    unfold newestL wantN
    rw [List.map_drop, List.map_append, map_drop_filter, h.ids, h.max, Int.toNat_natCast, List.length_append, List.length_append]
    have : (dropL PItem.id id n.items).length = (want.filter fun y => !eqS y id).length := by
      rw [← h.ids, ← map_drop_filter, List.length_map]
    rw [this]
    rfl
  · intro x hx
    rcases hin x hx with hx | rfl
    · exact h.pub x hx
    · rfl
theorem keep_start (k : Nat) (hk : k ≤ 8) : (configureN pr (begunN 0 true) nA 0 k).2 = 0 ∧ Keep k (configureN pr (begunN 0 true) nA 0 k).1 [] := by
  have hr : RightP pr (begunN 0 true) := (right_iff pr _).1 (by decide +kernel)
  have ho : ownerN pr (begunN 0 true) nA = 0 := by decide +kernel
  have he : configureN pr (begunN 0 true) nA 0 k = ({ begunN 0 true with access := 0, max := k, items := newestL [] k }, 0) := by
    unfold configureN
    rw [if_neg (by rw [ho]; decide), if_neg]
    · rfl
    · simp only [Bool.or_eq_true, Bool.and_eq_true, decide_eq_true_eq, not_or, not_and, Bool.not_eq_true]
      exact ⟨⟨⟨by decide, by omega⟩, by omega⟩, fun _ => rfl⟩
  have hd := configure_done hr nA 0 k
  rw [he] at hd ⊢
  refine ⟨rfl, ?_⟩
  rcases hd with ⟨h0, _⟩ | ⟨_, hr2, _, _⟩
  · exact absurd rfl h0
  have hnil : newestL [] (k : Int) = [] := by unfold newestL; simp
  rw [hnil] at hr2 ⊢
  refine ⟨hr2, bd_of (n := begunN 0 true) hr2 (by decide : Sm (begunN 0 true).name) (by decide : Sm (begunN 0 true).parent) ?_ (fun _ h => by cases h) (fun _ h => by cases h), rfl, (by decide +kernel : roleN (begunN 0 true) nA = 5), rfl, rfl, fun _ h => by cases h⟩
  intro x hx
  obtain rfl : x = ⟨nA, 5⟩ := by simpa [begunN] using hx
  decide
/-- the twelve names -/
def idN (b : UInt8) : ByteArray := ⟨#[97 + b % 12]⟩
theorem idN_name : ∀ b : UInt8, nameB (idN b) = true := by
  intro b
  have h : ∀ k : Fin 12, nameB ⟨#[97 + UInt8.ofNat k.val]⟩ = true := by decide +kernel
  have hk := h ⟨(b % 12).toNat, by rw [UInt8.toNat_mod]; exact Nat.mod_lt _ (by decide)⟩
  unfold idN
  rw [show UInt8.ofNat (↑(⟨(b % 12).toNat, by rw [UInt8.toNat_mod]; exact Nat.mod_lt _ (by decide)⟩ : Fin 12)) = b % 12 from UInt8.ofNat_toNat] at hk
  exact hk
end Go.Proofs.Ytpjaopcgoaannaa
