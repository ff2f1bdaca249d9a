/- Functions of Go's library that are told by a law: maps.clone, slices.Sorted of a map's keys, the machine's own comparison of strings. No program in it. -/
import Derived.Test.YtkgmpkoamicheaaGreatDoorMzd
import Derived.Lib.Bytealg
import Derived.Sort.KeysCollected
namespace Go.Proofs.YtkgmpkoamicheaaGreatDoor.M
noncomputable def lawClone : List Value → AHeap → Option (Ret × AHeap) := fun args H =>
  match args with
  | [.iface t (.map (some b))] => match H.get b with
    | some (.map es bs clk) => some (.ret (.iface t (.map (some (H.next * 256)))), AHeap.put ⟨H.next + 1, H.blk⟩ (H.next * 256) (some (.map es bs clk)))
    | _ => none
  | _ => none
noncomputable def strKeysOf : List (Value × Value) → Option (List (List UInt8))
  | [] => some []
  | (.string s, _) :: l => match strKeysOf l with
    | some ks => some (s.data.toList :: ks)
    | none => none
  | _ => none
noncomputable def insB (x : List UInt8) : List (List UInt8) → List (List UInt8)
  | [] => [x]
  | y :: l => match listLt y x with
    | true => y :: insB x l
    | false => x :: y :: l
noncomputable def shortKs (ks : List (List UInt8)) : Bool := Nat.ble ks.length 100000 && ks.all fun k => Nat.ble k.length 100000
noncomputable def sortB : List (List UInt8) → List (List UInt8)
  | [] => []
  | x :: l => insB x (sortB l)
noncomputable def keysOf (H : AHeap) : Value → Option (List (List UInt8))
  | .map none => some []
  | .map (some b) => match H.get b with
    | some (.map es _ _) => strKeysOf es
    | _ => none
  | _ => none
/-- kf: the function that maps.Keys hands back; e: the keys' type -/
noncomputable def lawSorted (kf : FuncId) (e : TypeId) : List Value → AHeap → Option (Ret × AHeap) := fun args H =>
  match args with
  | [.func (.func k) ⟨[]⟩ ⟨[.pointer (some ⟨c, 0, none⟩)]⟩] => match Nat.beq k kf, H.get c with
    | true, some (.cells (_ + 1) t _ none) => match t.get 0 with
      | some v => match keysOf H v with
        | some [] => some (.ret (.slice none 0 0), H)
        | some ks => if shortKs ks then some (.ret (.slice (some ⟨H.next * 256, 0, none⟩) ks.length ks.length), AHeap.put ⟨H.next + 1, H.blk⟩ (H.next * 256) (some (.cells ks.length (Tr.emp.putAll 0 ((sortB ks).map fun k => .string ⟨⟨k⟩⟩)) e (some 1)))) else none
        | none => none
      | none => none
    | _, _ => none
  | _ => none
noncomputable def lawSame : List Value → AHeap → Option (Ret × AHeap) := fun args H =>
  match args with
  | [x] => some (.ret x, H)
  | _ => none
noncomputable def lawCmp : List Value → AHeap → Option (Ret × AHeap) := fun args H =>
  match args with
  | [.string a, .string b] => some (.ret (.int .i64 (Lib.compareBytes a.data.toList b.data.toList)), H)
  | _ => none
noncomputable def lawCount : List Value → AHeap → Option (Ret × AHeap) := fun args H =>
  match args with
  | [.string s, .int .u8 c] => some (.ret (.int .i64 (Lib.countByte s.data.toList c.toNat.toUInt8)), H)
  | _ => none
/-- strings.Builder's check that it was not copied; okE: the types of the blocks in which a builder lies first -/
noncomputable def lawCheck (okE : TypeId → Bool) : List Value → AHeap → Option (Ret × AHeap) := fun args H =>
  match args with
  | [.pointer (some ⟨b, 0, none⟩)] => match H.get b with
    | some (.cells n t e none) => match okE e && Nat.ble 2 n with
      | false => none
      | true => match t.get 0 with
        | some (.pointer none) => some (.ret (.tuple #[]), H.put b (some (.cells n (t.putAll 0 [.pointer (some ⟨b, 0, none⟩)]) e none)))
        | some (.pointer (some ⟨c, 0, none⟩)) => match Nat.beq b c with
          | true => some (.ret (.tuple #[]), H)
          | false => none
        | _ => none
    | _ => none
  | _ => none
/-- what a strings.Builder holds; its bytes are looked at no more -/
noncomputable def lawBStr (okE : TypeId → Bool) : List Value → AHeap → Option (Ret × AHeap) := fun args H =>
  match args with
  | [.pointer (some ⟨b, 0, none⟩)] => match H.get b with
    | some (.cells n t e none) => match okE e && Nat.ble 2 n with
      | false => none
      | true => match t.get 1 with
        | some (.slice none 0 0) => some (.ret (.string ⟨⟨[]⟩⟩), H)
        | some (.slice (some ⟨c, oc, none⟩) k cp) => match Nat.ble 1 k, H.get c with
          | true, some (.cells k2 t2 e2 (some 1)) => match sliceCells 1 k (.slice (some ⟨c, oc, none⟩) k cp) H with
            | some l => match bytesOfCells l with
              | some bs => match Nat.beq bs.length k with
                | true => some (.ret (.string ⟨⟨bs⟩⟩), H.put c none)
                | false => none
              | none => none
            | none => none
          | _, _ => none
        | _ => none
    | _ => none
  | _ => none
end Go.Proofs.YtkgmpkoamicheaaGreatDoor.M
