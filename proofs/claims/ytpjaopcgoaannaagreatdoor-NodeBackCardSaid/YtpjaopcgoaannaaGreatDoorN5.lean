/- Nodes as plain data: an edit of a right node is right; what an edit leaves as it was. No program in it. -/
import Derived.Test.YtpjaopcgoaannaaGreatDoorN3
namespace Go.Proofs.YtpjaopcgoaannaaGreatDoor

theorem eqS_false {a b : ByteArray} : eqS a b = false ↔ a ≠ b := by
  rw [← Bool.not_eq_true, eqS_iff]

section
variable {α : Type} {of : α → ByteArray}
theorem find_setL_other (x : α) (who : ByteArray) (he : eqS (of x) who = false) : ∀ (l : List α), (setL of x l).find? (fun y => eqS (of y) who) = l.find? (fun y => eqS (of y) who)
  | [] => by simp [setL, he]
  | z :: r => by
    unfold setL
    split
    · rw [List.find?_cons, List.find?_cons, find_setL_other x who he r]
    · split
      · rename_i hz
        have : eqS (of z) who = false := by rw [eqS_iff] at hz; rw [hz]; exact he
        rw [List.find?_cons, List.find?_cons, he, this]
      · rw [List.find?_cons, he]
theorem find_dropL_other (who b : ByteArray) (he : eqS who b = false) : ∀ (l : List α), (dropL of who l).find? (fun y => eqS (of y) b) = l.find? (fun y => eqS (of y) b)
  | [] => rfl
  | z :: r => by
    have ih := find_dropL_other who b he r
    unfold dropL at *
    rw [List.filter_cons]
    by_cases hz : eqS (of z) who = true
    · rw [if_neg (by rw [hz]; simp), ih, List.find?_cons]
      have : eqS (of z) b = false := by rw [eqS_iff] at hz; rw [hz]; exact he
      rw [this]
    · rw [if_pos (by simpa using hz), List.find?_cons, List.find?_cons, ih]
theorem mem_dropL {who : ByteArray} {l : List α} {x : α} (h : x ∈ dropL of who l) : x ∈ l ∧ eqS (of x) who = false := by
  unfold dropL at h
  have := List.mem_filter.1 h
  exact ⟨this.1, by simpa using this.2⟩
theorem dropL_length (who : ByteArray) (l : List α) : (dropL of who l).length ≤ l.length := List.length_filter_le _ _
end

section
variable (p : Preds)
structure RightP (n : PNode) : Prop where
  head : headN p n = true
  aff : ∀ a ∈ n.affs, p.addr a.jid = true
  affRis : Ris PAff.jid n.affs
  affLen : n.affs.length ≤ 16
  sub : ∀ a ∈ n.subs, p.addr a.jid = true
  subRis : Ris PSub.jid n.subs
  subLen : n.subs.length ≤ 16
  most : (n.items.length : Int) ≤ n.max
  roles : ∀ a ∈ n.affs, roleOk a = true
  item : ∀ x ∈ n.items, (p.name x.id && p.addr x.pub && p.body x.text) = true
  ids : n.items.Pairwise fun x y => eqS x.id y.id = false
  owned : ∃ a ∈ n.affs, a.role = 5
  depth : ∀ s ∈ n.subs, depthBad s = false

theorem itemsR_iff : ∀ (l : List PItem) (seen : List ByteArray), itemsR p seen l = true ↔ (∀ x ∈ l, (p.name x.id && p.addr x.pub && p.body x.text) = true) ∧ (l.Pairwise fun x y => eqS x.id y.id = false) ∧ ∀ x ∈ l, ∀ y ∈ seen, eqS y x.id = false
  | [], seen => by simp [itemsR]
  | x :: r, seen => by
    show (!(seen.any fun y => eqS y x.id) && p.name x.id && p.addr x.pub && p.body x.text && itemsR p (seen ++ [x.id]) r) = true ↔ _
    rw [Bool.and_eq_true, itemsR_iff r, List.pairwise_cons]
    constructor
    · rintro ⟨h, h2, h3, h4⟩
      simp only [Bool.and_eq_true, Bool.not_eq_true', List.any_eq_false, Bool.not_eq_true] at h
      refine ⟨?_, ⟨fun y hy => h4 y hy x.id (by simp), h3⟩, ?_⟩
      · intro y hy
        rcases List.mem_cons.1 hy with rfl | hy
        · simp [h.1.1.2, h.1.2, h.2]
        · exact h2 y hy
      · intro y hy z hz
        rcases List.mem_cons.1 hy with rfl | hy
        · exact h.1.1.1 z hz
        · exact h4 y hy z (by simp [hz])
    · rintro ⟨h1, ⟨h2, h3⟩, h4⟩
      have hx := h1 x (.head _)
      simp only [Bool.and_eq_true] at hx
      refine ⟨?_, fun y hy => h1 y (.tail _ hy), h3, ?_⟩
      · simp only [Bool.and_eq_true, Bool.not_eq_true', List.any_eq_false, Bool.not_eq_true]
        exact ⟨⟨⟨fun z hz => h4 x (.head _) z hz, hx.1.1⟩, hx.1.2⟩, hx.2⟩
      · intro y hy z hz
        rcases List.mem_append.1 hz with hz | hz
        · exact h4 y (.tail _ hy) z hz
        · obtain rfl : z = x.id := by simpa using hz
          exact h2 y hy
theorem right_iff (n : PNode) : rightN p n = true ↔ RightP p n := by
  unfold rightN
  simp only [Bool.and_eq_true, risingL_iff, decide_eq_true_eq, List.all_eq_true, itemsR_iff, List.any_eq_true, beq_iff_eq, Bool.not_eq_true', List.any_eq_false, Bool.not_eq_true]
  constructor
  · rintro ⟨⟨⟨⟨⟨⟨⟨h1, h2, h3, h4⟩, h5, h6, h7⟩, h8⟩, h9⟩, ⟨h10, h11, _⟩⟩, h12⟩, h13⟩
    exact ⟨h1, h2, h3, h4, h5, h6, h7, h8, h9, fun x hx => by simpa [Bool.and_eq_true] using h10 x hx, h11, h12, h13⟩
  · rintro ⟨h1, h2, h3, h4, h5, h6, h7, h8, h9, h10, h11, h12, h13⟩
    exact ⟨⟨⟨⟨⟨⟨⟨h1, h2, h3, h4⟩, h5, h6, h7⟩, h8⟩, h9⟩, ⟨fun x hx => by simpa [Bool.and_eq_true] using h10 x hx, h11, fun _ _ _ h => by cases h⟩⟩, h12⟩, h13⟩

theorem sub_is {n : PNode} {who : ByteArray} (h : (subN n who).2 = true) : (subN n who).1 ∈ n.subs ∧ (subN n who).1.jid = who ∧ n.subs.find? (fun a => eqS a.jid who) = some (subN n who).1 := by
  unfold subN at *
  cases hf : n.subs.find? (fun a => eqS a.jid who) with
  | none => rw [hf] at h; cases h
  | some a =>
    have := List.find?_some hf
    exact ⟨List.mem_of_find?_eq_some hf, eqS_iff.1 this, rfl⟩
theorem sub_no {n : PNode} {who : ByteArray} (h : (subN n who).2 = false) : subN n who = (⟨⟨#[]⟩, false, 0⟩, false) := by
  unfold subN at *
  cases hf : n.subs.find? (fun a => eqS a.jid who) with
  | none => rfl
  | some a => rw [hf] at h; cases h

/-- no Outcast has a subscription -/
def NoOut (n : PNode) : Prop := ∀ s ∈ n.subs, roleN n s.jid ≠ 1
/-- what every edit leaves -/
def SameHead (n m : PNode) : Prop := m.name = n.name ∧ m.coll = n.coll ∧ m.parent = n.parent

theorem newest_sub (l : List PItem) (k : Int) : (newestL l k).Sublist l := List.drop_sublist _ _
theorem newest_len (l : List PItem) (k : Int) (hk : 0 ≤ k) : ((newestL l k).length : Int) ≤ k := by
  unfold newestL
  rw [List.length_drop]
  omega

variable {p} in
theorem RightP.items {n : PNode} (h : RightP p n) {l : List PItem} (hl : (l.length : Int) ≤ n.max) (h1 : ∀ x ∈ l, (p.name x.id && p.addr x.pub && p.body x.text) = true) (h2 : l.Pairwise fun x y => eqS x.id y.id = false) : RightP p { n with items := l } :=
  ⟨h.head, h.aff, h.affRis, h.affLen, h.sub, h.subRis, h.subLen, hl, h.roles, h1, h2, h.owned, h.depth⟩
variable {p} in
theorem RightP.subs {n : PNode} (h : RightP p n) {l : List PSub} (h1 : ∀ a ∈ l, p.addr a.jid = true) (h2 : Ris PSub.jid l) (h3 : l.length ≤ 16) (h4 : ∀ s ∈ l, depthBad s = false) : RightP p { n with subs := l } :=
  ⟨h.head, h.aff, h.affRis, h.affLen, h1, h2, h3, h.most, h.roles, h.item, h.ids, h.owned, h4⟩
variable {p} in
theorem RightP.max0 {n : PNode} (h : RightP p n) : 0 ≤ n.max := by
  have := h.head
  unfold headN at this
  simp only [Bool.and_eq_true, decide_eq_true_eq] at this
  exact this.1.1.2
variable {p} in
theorem RightP.dropSubs {n : PNode} (h : RightP p n) (who : ByteArray) : RightP p { n with subs := dropL PSub.jid who n.subs } :=
  h.subs (fun a ha => h.sub a (mem_dropL ha).1) (dropL_ris h.subRis who) (Nat.le_trans (dropL_length _ _) h.subLen) (fun a ha => h.depth a (mem_dropL ha).1)
variable {p} in
theorem RightP.setSubs {n : PNode} (h : RightP p n) (x : PSub) (hx : p.addr x.jid = true) (hd : depthBad x = false) (hl : (setL PSub.jid x n.subs).length ≤ 16) : RightP p { n with subs := setL PSub.jid x n.subs } :=
  h.subs (fun a ha => by rcases setL_mem x _ _ ha with rfl | ha; exact hx; exact h.sub a ha) (setL_ris x _ h.subRis) hl (fun a ha => by rcases setL_mem x _ _ ha with rfl | ha; exact hd; exact h.depth a ha)
variable {p} in
theorem RightP.isLen {n : PNode} (h : RightP p n) {who : ByteArray} (hi : (subN n who).2 = true) (x : PSub) (hx : x.jid = who) : (setL PSub.jid x n.subs).length ≤ 16 := by
  obtain ⟨hm, hj, _⟩ := sub_is hi
  rw [setL_length_is x n.subs h.subRis ⟨_, hm, by rw [hx, hj]; exact eqS_refl _⟩]
  exact h.subLen

/-- what an edit comes to -/
def Done (n : PNode) (r : PNode × Int) : Prop := (r.2 ≠ 0 ∧ r.1 = noNode) ∨ (r.2 = 0 ∧ RightP p r.1 ∧ SameHead n r.1 ∧ (NoOut n → NoOut r.1))
variable {p}
theorem Done.no {n : PNode} {c : Int} (h : c ≠ 0) : Done p n (noNode, c) := .inl ⟨h, rfl⟩

theorem subscribe_done {n : PNode} (h : RightP p n) (who : ByteArray) (depth : Int) : Done p n (subscribeN p n who depth) := by
  unfold subscribeN
  split
  · exact .no (by decide)
  rename_i hd
  simp only [(right_iff p n).2 h, Bool.not_true, Bool.false_or, Bool.or_eq_true, Bool.not_eq_true', decide_eq_true_eq, not_or, Bool.not_eq_false] at hd
  split
  · exact .no (by decide)
  rename_i hr
  split
  · exact .no (by decide)
  split
  · exact .no (by decide)
  split
  · exact .no (by decide)
  rename_i hl
  have hlen : ((subN n who).2 = true ∨ n.subs.length < 16) := by
    cases hs : (subN n who).2 with
    | true => exact .inl rfl
    | false =>
      rw [hs] at hl
      have := h.subLen
      simp at hl
      right; omega
  have key : ∀ x : PSub, x.jid = who → x.depth = depth → Done p n ({ n with subs := setL PSub.jid x n.subs }, 0) := by
    intro x hx hxd
    refine .inr ⟨rfl, h.setSubs x (by rw [hx]; exact hd.1.1) (by unfold depthBad; rw [hxd]; simp only [Bool.or_eq_false_iff, decide_eq_false_iff_not]; exact ⟨hd.1.2, hd.2⟩) ?_, ⟨rfl, rfl, rfl⟩, ?_⟩
    · rcases hlen with hs | hs
      · exact h.isLen hs x hx
      · have := setL_length (of := PSub.jid) x n.subs
        omega
    · intro ho s hs
      rcases setL_mem x _ _ hs with rfl | hs
      · show roleN n s.jid ≠ 1
        rw [hx]
        simpa using hr
      · exact ho s hs
  apply key
  · split
    · rename_i hs; exact (sub_is hs).2.1
    · rfl
  · split <;> rfl
theorem unsubscribe_done {n : PNode} (h : RightP p n) (who : ByteArray) : Done p n (unsubscribeN p n who) := by
  unfold unsubscribeN
  split
  · exact .no (by decide)
  split
  · exact .no (by decide)
  exact .inr ⟨rfl, h.dropSubs who, ⟨rfl, rfl, rfl⟩, fun ho s hs => ho s (mem_dropL hs).1⟩
theorem owner_no (n : PNode) (by_ : ByteArray) : ownerN p n by_ = 0 ↔ rightN p n = true ∧ roleN n by_ = 5 := by
  unfold ownerN
  cases rightN p n <;> simp
theorem decide_done {n : PNode} (h : RightP p n) (by_ who : ByteArray) (yes : Bool) : Done p n (decideN p n by_ who yes) := by
  unfold decideN
  split
  · rename_i hc
    exact .no (by simpa using hc)
  split
  · exact .no (by decide)
  rename_i hs
  simp only [Bool.or_eq_true, Bool.not_eq_true', not_or, Bool.not_eq_false] at hs
  obtain ⟨hm, hj, _⟩ := sub_is hs.1
  split
  · refine .inr ⟨rfl, h.setSubs _ (by show p.addr (subN n who).1.jid = true; exact h.sub _ hm) (show depthBad (subN n who).1 = false from h.depth _ hm) (h.isLen hs.1 _ hj), ⟨rfl, rfl, rfl⟩, ?_⟩
    intro ho s hs
    rcases setL_mem _ _ _ hs with rfl | hs
    · exact (show roleN n (subN n who).1.jid ≠ 1 from ho _ hm)
    · exact ho s hs
  · exact .inr ⟨rfl, h.dropSubs who, ⟨rfl, rfl, rfl⟩, fun ho s hs => ho s (mem_dropL hs).1⟩
theorem role_set (n : PNode) (who b : ByteArray) (r : Int) (hr : r ≠ 2) (l : List PSub) : roleN { n with affs := newAffs n who r, subs := l } b = if eqS who b then r else roleN n b := by
  unfold roleN newAffs
  rw [if_neg (by simpa using hr)]
  cases h : eqS who b with
  | true =>
    show (match (setL PAff.jid ⟨who, r⟩ n.affs).find? (fun a => eqS a.jid b) with | some a => a.role | none => 2) = _
    rw [find_setL (of := PAff.jid) ⟨who, r⟩ b h]
    rfl
  | false =>
    show (match (setL PAff.jid ⟨who, r⟩ n.affs).find? (fun a => eqS a.jid b) with | some a => a.role | none => 2) = _
    rw [find_setL_other (of := PAff.jid) ⟨who, r⟩ b h]
    rfl
theorem role_drop (n : PNode) (who b : ByteArray) (l : List PSub) : roleN { n with affs := newAffs n who 2, subs := l } b = if eqS who b then 2 else roleN n b := by
  unfold roleN newAffs
  rw [if_pos (by rfl)]
  cases h : eqS who b with
  | true =>
    rw [eqS_iff] at h
    subst h
    show (match (dropL PAff.jid who n.affs).find? (fun a => eqS a.jid who) with | some a => a.role | none => 2) = _
    rw [find_dropL]
    rfl
  | false =>
    show (match (dropL PAff.jid who n.affs).find? (fun a => eqS a.jid b) with | some a => a.role | none => 2) = _
    rw [find_dropL_other who b h]
    rfl
theorem affiliate_done {n : PNode} (h : RightP p n) (by_ who : ByteArray) (r : Int) : Done p n (affiliateN p n by_ who r) := by
  unfold affiliateN
  split
  · rename_i hc
    exact .no (by simpa using hc)
  split
  · exact .no (by decide)
  rename_i hb
  split
  · exact .no (by decide)
  rename_i ho
  split
  · exact .no (by decide)
  rename_i hl
  simp only [Bool.or_eq_true, Bool.not_eq_true', decide_eq_true_eq, not_or, Bool.not_eq_false] at hb
  simp only [Bool.not_eq_true', Bool.not_eq_false, List.any_eq_true, beq_iff_eq] at ho
  simp only [decide_eq_true_eq] at hl
  have hmem : ∀ a ∈ newAffs n who r, (a.jid = who ∧ a.role = r ∧ r ≠ 2) ∨ a ∈ n.affs := by
    intro a ha
    unfold newAffs at ha
    split at ha
    · exact .inr (mem_dropL ha).1
    · rename_i h2
      rcases setL_mem _ _ _ ha with rfl | ha
      · exact .inl ⟨rfl, rfl, by simpa using h2⟩
      · exact .inr ha
  have hris : Ris PAff.jid (newAffs n who r) := by
    unfold newAffs
    split
    · exact dropL_ris h.affRis who
    · exact setL_ris _ _ h.affRis
  have hR : RightP p { n with affs := newAffs n who r } := by
    refine ⟨h.head, ?_, hris, by show (newAffs n who r).length ≤ 16; omega, h.sub, h.subRis, h.subLen, h.most, ?_, h.item, h.ids, ho, h.depth⟩
    · intro a ha
      rcases hmem a ha with ⟨e, _⟩ | ha
      · rw [e]; exact hb.1.1
      · exact h.aff a ha
    · intro a ha
      rcases hmem a ha with ⟨_, e, e2⟩ | ha
      · unfold roleOk
        rw [e]
        have h1 := hb.1.2
        have h2 := hb.2
        have : r = 1 ∨ r = 3 ∨ r = 4 ∨ r = 5 := by omega
        rcases this with rfl | rfl | rfl | rfl <;> rfl
      · exact h.roles a ha
  refine .inr ⟨rfl, ?_, ⟨rfl, rfl, rfl⟩, ?_⟩
  · show RightP p { n with affs := newAffs n who r, subs := if r == 1 then dropL PSub.jid who n.subs else n.subs }
    by_cases h1 : (r == 1) = true
    · rw [if_pos h1]
      exact hR.dropSubs who
    · rw [if_neg h1]
      exact hR
  · intro hn s hs
    show roleN { n with affs := newAffs n who r, subs := if r == 1 then dropL PSub.jid who n.subs else n.subs } s.jid ≠ 1
    have hs' : s ∈ (if r == 1 then dropL PSub.jid who n.subs else n.subs) := hs
    have hin : s ∈ n.subs ∧ (r = 1 → eqS s.jid who = false) := by
      by_cases h1 : r = 1
      · rw [if_pos (by simpa using h1)] at hs'
        exact ⟨(mem_dropL hs').1, fun _ => (mem_dropL hs').2⟩
      · rw [if_neg (by simpa using h1)] at hs'
        exact ⟨hs', fun e => absurd e h1⟩
    by_cases h2 : r = 2
    · subst h2
      rw [role_drop]
      split
      · decide
      · exact hn s hin.1
    · rw [role_set n who _ r h2]
      split
      · rename_i he
        intro e
        have := hin.2 e
        rw [eqS_comm] at this
        rw [this] at he
        cases he
      · exact hn s hin.1
theorem publisher_no (n : PNode) (by_ : ByteArray) (k : Int) : publisherN p n by_ k = 0 ↔ rightN p n = true ∧ n.coll = false ∧ k ≤ roleN n by_ := by
  unfold publisherN
  cases rightN p n <;> cases n.coll <;> simp
theorem ids_put {l : List PItem} (h : l.Pairwise fun x y => eqS x.id y.id = false) (x : PItem) (k : Int) : (newestL (dropL PItem.id x.id l ++ [x]) k).Pairwise fun x y => eqS x.id y.id = false := by
  refine List.Pairwise.sublist (newest_sub _ _) ?_
  rw [List.pairwise_append]
  refine ⟨List.Pairwise.filter _ h, by simp, ?_⟩
  intro a ha b hb
  obtain rfl : b = x := by simpa using hb
  exact (mem_dropL ha).2
theorem publish_done {n : PNode} (h : RightP p n) (by_ item body : ByteArray) : Done p n (publishN p n by_ item body) := by
  unfold publishN
  split
  · rename_i hc
    exact .no (by simpa using hc)
  rename_i hc
  split
  · exact .no (by decide)
  rename_i hb
  simp only [Bool.or_eq_true, Bool.not_eq_true', not_or, Bool.not_eq_false] at hb
  have hrole := ((publisher_no (p := p) n by_ 4).1 (by simpa using hc)).2.2
  have haddr : p.addr by_ = true := by
    unfold roleN at hrole
    cases hf : n.affs.find? (fun a => eqS a.jid by_) with
    | none => rw [hf] at hrole; exact absurd hrole (by decide)
    | some a =>
      have := List.find?_some hf
      rw [← eqS_iff.1 this]
      exact h.aff a (List.mem_of_find?_eq_some hf)
  refine .inr ⟨rfl, h.items (newest_len _ _ h.max0) ?_ (ids_put h.ids ⟨item, by_, body⟩ n.max), ⟨rfl, rfl, rfl⟩, fun ho => ho⟩
  intro x hx
  have hx := (newest_sub _ _).subset hx
  rcases List.mem_append.1 hx with hx | hx
  · exact h.item x (mem_dropL hx).1
  · obtain rfl : x = ⟨item, by_, body⟩ := by simpa using hx
    simp [hb.1, hb.2, haddr]
theorem retract_done {n : PNode} (h : RightP p n) (by_ item : ByteArray) : Done p n (retractN p n by_ item) := by
  unfold retractN
  split
  · rename_i hc
    exact .no (by simpa using hc)
  split
  · exact .no (by decide)
  refine .inr ⟨rfl, h.items ?_ (fun x hx => h.item x (mem_dropL hx).1) (List.Pairwise.filter _ h.ids), ⟨rfl, rfl, rfl⟩, fun ho => ho⟩
  have := dropL_length (of := PItem.id) item n.items
  have := h.most
  omega
theorem purge_done {n : PNode} (h : RightP p n) (by_ : ByteArray) : Done p n (purgeN p n by_) := by
  unfold purgeN
  split
  · rename_i hc
    exact .no (by simpa using hc)
  exact .inr ⟨rfl, h.items h.max0 (fun _ h => by cases h) .nil, ⟨rfl, rfl, rfl⟩, fun ho => ho⟩
theorem configure_done {n : PNode} (h : RightP p n) (by_ : ByteArray) (a most : Int) : Done p n (configureN p n by_ a most) := by
  unfold configureN
  split
  · rename_i hc
    exact .no (by simpa using hc)
  split
  · exact .no (by decide)
  rename_i hb
  simp only [Bool.or_eq_true, Bool.and_eq_true, decide_eq_true_eq, not_or, not_and, Bool.not_eq_true] at hb
  have hh := h.head
  unfold headN at hh
  simp only [Bool.and_eq_true, decide_eq_true_eq] at hh
  refine .inr ⟨rfl, ⟨?_, h.aff, h.affRis, h.affLen, h.sub, h.subRis, h.subLen, newest_len _ _ (by omega), h.roles, fun x hx => h.item x ((newest_sub _ _).subset hx), List.Pairwise.sublist (newest_sub _ _) h.ids, h.owned, h.depth⟩, ⟨rfl, rfl, rfl⟩, fun ho => ho⟩
  show (p.name n.name && decide (a ≤ 2) && decide (0 ≤ most) && decide (most ≤ if n.coll then 0 else 8) && (eqS n.parent ⟨#[]⟩ || p.name n.parent)) = true
  simp only [Bool.and_eq_true, decide_eq_true_eq]
  refine ⟨⟨⟨⟨hh.1.1.1.1, by omega⟩, by omega⟩, ?_⟩, hh.2⟩
  split
  · rename_i hcoll
    have : ¬ 0 < most := fun hm => by have := hb.2 hm; rw [hcoll] at this; cases this
    omega
  · omega
theorem do_done {n : PNode} (h : RightP p n) (x : PEdit) : Done p n (doN p n x) := by
  unfold doN
  repeat' split
  · exact subscribe_done h _ _
  · exact unsubscribe_done h _
  · exact decide_done h _ _ _
  · exact affiliate_done h _ _ _
  · exact publish_done h _ _ _
  · exact retract_done h _ _
  · exact purge_done h _
  · exact configure_done h _ _ _
end
end Go.Proofs.YtpjaopcgoaannaaGreatDoor
