/- Nodes as plain data, and what the functions of package node answer about them. No program in it. -/
import Derived.Test.YtpjaopcgoaannaaGreatDoorN1
namespace Go.Proofs.YtpjaopcgoaannaaGreatDoor
open Go.RowKit
open Hb

def eqS (a b : ByteArray) : Bool := a.toList == b.toList
def ltS (a b : ByteArray) : Bool := Op.bytesLess a.toList b.toList

structure PAff where
  jid : ByteArray
  role : Int
structure PSub where
  jid : ByteArray
  pending : Bool
  depth : Int
structure PItem where
  id : ByteArray
  pub : ByteArray
  text : ByteArray
structure PNode where
  name : ByteArray
  coll : Bool
  access : Int
  max : Int
  affs : List PAff
  subs : List PSub
  items : List PItem
  parent : ByteArray

def PAff.enc (a : PAff) : List Value := [.string a.jid, .int .u8 a.role]
def PSub.enc (a : PSub) : List Value := [.string a.jid, .bool a.pending, .int .i64 a.depth]
def PItem.enc (a : PItem) : List Value := [.string a.id, .string a.pub, .string a.text]

/-- a node in memory, its rows to be read -/
def NodeV (w : World) (v : Value) (n : PNode) : Prop := ∃ A S I, v = .agg #[.string n.name, .bool n.coll, .int .u8 n.access, .int .i64 n.max, A, S, I, .string n.parent] ∧ SlE PAff.enc 2 w A n.affs ∧ SlE PSub.enc 3 w S n.subs ∧ SlE PItem.enc 3 w I n.items
theorem NodeV.below {w w' : World} {v : Value} {n : PNode} (h : NodeV w v n) (hb : Below w.heap.size w w') : NodeV w' v n := by
  obtain ⟨A, S, I, e, a, s, i⟩ := h
  exact ⟨A, S, I, e, a.below hb, s.below hb, i.below hb⟩

def noNode : PNode := ⟨⟨#[]⟩, false, 0, 0, [], [], [], ⟨#[]⟩⟩

/-! what is asked of texts: three predicates, given -/
structure Preds where
  name : ByteArray → Bool
  addr : ByteArray → Bool
  body : ByteArray → Bool

section
variable {α : Type} (of : α → ByteArray)
/-- put into a row that rises -/
def setL (x : α) : List α → List α
  | [] => [x]
  | y :: r => if ltS (of y) (of x) then y :: setL x r else if eqS (of y) (of x) then x :: r else x :: y :: r
def dropL (who : ByteArray) (l : List α) : List α := l.filter fun x => !eqS (of x) who
variable (p : ByteArray → Bool)
/-- the rest of a row rises, behind what was before -/
def risingR : Option ByteArray → List α → Bool
  | _, [] => true
  | b, x :: r => p (of x) && (match b with | none => true | some y => ltS y (of x)) && risingR (some (of x)) r
def risingL (l : List α) : Bool := risingR of p none l && decide (l.length ≤ 16)
end

section
variable (p : Preds)
def roleOk (a : PAff) : Bool := a.role == 1 || a.role == 3 || a.role == 4 || a.role == 5
def itemsR : List ByteArray → List PItem → Bool
  | _, [] => true
  | seen, x :: r => !(seen.any fun y => eqS y x.id) && p.name x.id && p.addr x.pub && p.body x.text && itemsR (seen ++ [x.id]) r
def headN (n : PNode) : Bool := p.name n.name && decide (n.access ≤ 2) && decide (0 ≤ n.max) && decide (n.max ≤ if n.coll then 0 else 8) && (eqS n.parent ⟨#[]⟩ || p.name n.parent)
def depthBad (s : PSub) : Bool := decide (s.depth < 0) || decide (255 < s.depth)
def rightN (n : PNode) : Bool := headN p n && risingL PAff.jid p.addr n.affs && risingL PSub.jid p.addr n.subs && decide ((n.items.length : Int) ≤ n.max) && n.affs.all roleOk && itemsR p [] n.items && (n.affs.any fun a => a.role == 5) && !n.subs.any depthBad

def roleN (n : PNode) (who : ByteArray) : Int := match n.affs.find? fun a => eqS a.jid who with | some a => a.role | none => 2
def subN (n : PNode) (who : ByteArray) : PSub × Bool := match n.subs.find? fun a => eqS a.jid who with | some a => (a, true) | none => (⟨⟨#[]⟩, false, 0⟩, false)
def readsN (n : PNode) (who : ByteArray) : Bool :=
  if roleN n who == 1 then false else if 2 < roleN n who then true else n.access == 0 || n.access == 1 && (subN n who).2 && !(subN n who).1.pending

def subscribeN (n : PNode) (who : ByteArray) (depth : Int) : PNode × Int :=
  if !rightN p n || !p.addr who || decide (depth < 0) || decide (255 < depth) then (noNode, 1)
  else if roleN n who == 1 then (noNode, 3)
  else if !decide (2 < roleN n who) && n.access == 2 then (noNode, 6)
  else if (subN n who).2 && (subN n who).1.pending then (noNode, 7)
  else if !(subN n who).2 && n.subs.length == 16 then (noNode, 8)
  else ({ n with subs := setL PSub.jid (if (subN n who).2 then ⟨(subN n who).1.jid, (subN n who).1.pending, depth⟩ else ⟨who, !decide (2 < roleN n who) && n.access == 1, depth⟩) n.subs }, 0)
def unsubscribeN (n : PNode) (who : ByteArray) : PNode × Int :=
  if !rightN p n then (noNode, 1) else if !(subN n who).2 then (noNode, 10) else ({ n with subs := dropL PSub.jid who n.subs }, 0)
def ownerN (n : PNode) (by_ : ByteArray) : Int := if !rightN p n then 1 else if roleN n by_ != 5 then 3 else 0
def decideN (n : PNode) (by_ who : ByteArray) (yes : Bool) : PNode × Int :=
  if ownerN p n by_ != 0 then (noNode, ownerN p n by_)
  else if !(subN n who).2 || !(subN n who).1.pending then (noNode, 4)
  else if yes then ({ n with subs := setL PSub.jid ⟨(subN n who).1.jid, false, (subN n who).1.depth⟩ n.subs }, 0)
  else ({ n with subs := dropL PSub.jid who n.subs }, 0)
def newAffs (n : PNode) (who : ByteArray) (r : Int) : List PAff := if r == 2 then dropL PAff.jid who n.affs else setL PAff.jid ⟨who, r⟩ n.affs
def affiliateN (n : PNode) (by_ who : ByteArray) (r : Int) : PNode × Int :=
  if ownerN p n by_ != 0 then (noNode, ownerN p n by_)
  else if !p.addr who || decide (r < 1) || decide (5 < r) then (noNode, 1)
  else if !(newAffs n who r).any (fun a => a.role == 5) then (noNode, 2)
  else if decide (16 < (newAffs n who r).length) then (noNode, 8)
  else ({ n with affs := newAffs n who r, subs := if r == 1 then dropL PSub.jid who n.subs else n.subs }, 0)
def publisherN (n : PNode) (by_ : ByteArray) (least : Int) : Int := if !rightN p n then 1 else if n.coll then 6 else if decide (roleN n by_ < least) then 3 else 0
def newestL (l : List PItem) (most : Int) : List PItem := l.drop (l.length - most.toNat)
def publishN (n : PNode) (by_ item body : ByteArray) : PNode × Int :=
  if publisherN p n by_ 4 != 0 then (noNode, publisherN p n by_ 4)
  else if !p.name item || !p.body body then (noNode, 1)
  else ({ n with items := newestL (dropL PItem.id item n.items ++ [⟨item, by_, body⟩]) n.max }, 0)
def retractN (n : PNode) (by_ item : ByteArray) : PNode × Int :=
  if publisherN p n by_ 4 != 0 then (noNode, publisherN p n by_ 4)
  else if (dropL PItem.id item n.items).length == n.items.length then (noNode, 4)
  else ({ n with items := dropL PItem.id item n.items }, 0)
def purgeN (n : PNode) (by_ : ByteArray) : PNode × Int :=
  if publisherN p n by_ 5 != 0 then (noNode, publisherN p n by_ 5) else ({ n with items := [] }, 0)
def configureN (n : PNode) (by_ : ByteArray) (a most : Int) : PNode × Int :=
  if ownerN p n by_ != 0 then (noNode, ownerN p n by_)
  else if decide (2 < a) || decide (most < 0) || decide (8 < most) || decide (0 < most) && n.coll then (noNode, 1)
  else ({ n with access := a, max := most, items := newestL n.items most }, 0)

structure PEdit where
  kind : Int
  by_ : ByteArray
  who : ByteArray
  depth : Int
  max : Int
  yes : Bool
  role : Int
  access : Int
  item : ByteArray
  text : ByteArray
def doN (n : PNode) (x : PEdit) : PNode × Int :=
  if x.kind == 0 then subscribeN p n x.who x.depth
  else if x.kind == 1 then unsubscribeN p n x.who
  else if x.kind == 2 then decideN p n x.by_ x.who x.yes
  else if x.kind == 3 then affiliateN p n x.by_ x.who x.role
  else if x.kind == 4 then publishN p n x.by_ x.item x.text
  else if x.kind == 5 then retractN p n x.by_ x.item
  else if x.kind == 6 then purgeN p n x.by_
  else configureN p n x.by_ x.access x.max
def fewN (n : PNode) : PNode := { n with affs := n.affs.take 20, subs := n.subs.take 20, items := n.items.take 20 }
end
end Go.Proofs.YtpjaopcgoaannaaGreatDoor
