/- A quick way to run Go code on known data: one operation, a region, code. No program in it. -/
import Derived.Test.YtkgmpkoamicheaaGreatDoorMc
namespace Go.Proofs.YtkgmpkoamicheaaGreatDoor.M
noncomputable section

def toInt : Value → Option (IntKind × Int)
  | .int k n => some (k, n)
  | _ => none
def fillL (place : Nat → Option (Nat × Nat)) (cells : List Value) : List (Nat × Value) → Option (List Value)
  | [] => some cells
  | (i, v) :: rest => match place i with
    | none => none
    | some (off, size) =>
      let l := cellsL v
      if l.length == size && decide (off + l.length ≤ cells.length) then fillL place (cells.take off ++ l ++ cells.drop (off + l.length)) rest else none
def evParts (env : AEnv) : List (Nat × Operand) → Option (List (Nat × Value))
  | [] => some []
  | (i, x) :: l => match ev env x, evParts env l with
    | some v, some vs => some ((i, v) :: vs)
    | _, _ => none
def fieldOf (T : Tab) (s : TypeId) (f : Nat) : Option Field := match T.get s with
  | some r => match r.und with
    | .struct fs => fs.toList[f]?
    | _ => none
  | none => none
def optEv (env : AEnv) : Option Operand → Option (Option Value)
  | none => some none
  | some x => match ev env x with
    | some v => some (some v)
    | none => none

def val (H : AHeap) : Option Value → Option (Out × AHeap)
  | some v => some (.val v, H)
  | none => none
def xPick (env : AEnv) (c a b : Operand) : Option Value :=
  match ev env c with
  | some (.bool true) => ev env a
  | some (.bool false) => ev env b
  | _ => none
def ptrTo (id : Nat) (H : Option AHeap) : Option (Out × AHeap) :=
  match H with
  | some H1 => some (.val (.pointer (some ⟨id, 0, none⟩)), H1)
  | none => none
def xAlloc (T : Tab) (id : Nat) (H : AHeap) (e : TypeId) : Option (Out × AHeap) :=
  match T.get e with
  | some r => match r.zero with
    | some z => if plainV z then ptrTo id (anew e (cellsL z) id H) else none
    | none => none
  | none => none
def xBox (id : Nat) (H : AHeap) (e : TypeId) : Option Value → Option (Out × AHeap)
  | some v => ptrTo id (anew e (cellsL v) id H)
  | none => none
def placeS (T : Tab) (fs : List Field) (i : Nat) : Option (Nat × Nat) :=
  match fs[i]? with
  | some f => (match T.get f.type with | some rf => some (f.offset, rf.size) | none => none)
  | none => none
def aggOf : Option (List Value) → Option Value
  | some l => some (.agg ⟨l⟩)
  | none => none
def xBuild (T : Tab) (t : TypeId) (vs : List (Nat × Value)) : Option Value :=
  match T.get t with
  | none => none
  | some r => match r.zero with
    | none => none
    | some z => if plainV z then (match r.und with
      | .struct fs => aggOf (fillL (placeS T fs.toList) (cellsL z) vs)
      | .array _ e => match T.get e with
        | some re => aggOf (fillL (fun i => some (i * re.size, re.size)) (cellsL z) vs)
        | none => none
      | _ => none) else none
def sliceTo (id n m : Nat) (H : Option AHeap) : Option (Out × AHeap) :=
  match H with
  | some H1 => some (.val (.slice (some ⟨id, 0, none⟩) n m), H1)
  | none => none
def xBuildSlice (T : Tab) (id : Nat) (H : AHeap) (t : TypeId) (n : Nat) (vs : List (Nat × Value)) : Option (Out × AHeap) :=
  match T.get t with
  | none => none
  | some r => match r.und with
    | .slice e => match T.get e with
      | some re => match re.zero with
        | some z => if plainV z && decide (n * re.size ≤ 65536) && (cellsL z).length == re.size then
            (match fillL (fun i => some (i * re.size, re.size)) (repCells n (cellsL z)) vs with
            | some l => sliceTo id n n (anew e l id H)
            | none => none) else none
        | none => none
      | none => none
    | _ => none
def xNil : Option Value → Option Value
  | some (.pointer (some a)) => some (.pointer (some a))
  | some (.iface t v) => some (.iface t v)
  | some (.func (.func f) x y) => some (.func (.func f) x y)
  | some (.func (.yield b) ⟨[]⟩ ⟨[]⟩) => some (.func (.yield b) #[] #[])
  | _ => none
def xConvert (T : Tab) (id : Nat) (H : AHeap) (s d : TypeId) (v : Value) : Option (Out × AHeap) :=
  match T.get s, T.get d with
  | some rs, some rd => match rs.und, rd.und, v with
    | .int _, .int k, .int _ n => val H (some (.int k (k.wrap n)))
    | .string, .string, .string b => val H (some (.string b))
    | .string, .slice e, .string b => match T.get e with
      | some re => match re.und with
        | .int .u8 => some (.val (.slice (some ⟨id, 0, none⟩) b.size b.size), H.put id (some (.cells b.size (Tr.emp.putAll 0 (b.data.toList.map fun c => .int .u8 c.toNat)) e (some 1))))
        | _ => none
      | none => none
    | .slice _, .slice e, .slice (some ⟨b, o, none⟩) n c => if Nat.beq s d then match T.get e with
      | some re => match re.und with
        | .int .u8 => match H.get b with
          | some (.cells k t el g) => some (.val (.slice (some ⟨b, o, none⟩) n c), H.put b (some (.cells k t el g)))
          | _ => none
        | _ => none
      | none => none else none
    | .slice e, .string, .slice a n c => match T.get e with
      | some re => match re.und with
        | .int .u8 => match sliceCells 1 n (.slice a n c) H with
          | some l => match bytesOfCells l with
            | some bs => if bs.length == n then val H (some (.string ⟨⟨bs⟩⟩)) else none
            | none => none
          | none => none
        | _ => none
      | none => none
    | _, _, _ => none
  | _, _ => none
def xIface (T : Tab) (t : TypeId) (v : Value) : Option Value :=
  match T.get t with
  | some r => match r.und with
    | .interface _ => none
    | _ => some (.iface t v)
  | none => none
def xFunc (fn : Fn) : Option (List Value) → Option (List Value) → Option Value
  | some x, some y => if isYield fn then none else some (.func fn ⟨x⟩ ⟨y⟩)
  | _, _ => none
def xMakeSlice (T : Tab) (id : Nat) (H : AHeap) (t : TypeId) : Option Value → Option Value → Option (Out × AHeap)
  | some (.int _ n), some (.int _ m) => match T.get t with
    | some r => match r.und with
      | .slice e => match T.get e with
        | some re => match re.zero with
          | some z => if plainV z && decide (0 ≤ n) && decide (n ≤ m) && decide (m ≤ 1099511627776) && decide (m * re.size ≤ 65536) && decide (m * re.bytes ≤ 1099511627776) && (cellsL z).length == re.size && allOne (cellsL z) then
              some (.val (.slice (some ⟨id, 0, none⟩) n.toNat m.toNat), H.put id (some (.cells (m.toNat * re.size) (zeroTree m.toNat (cellsL z)) e none))) else none
          | none => none
        | none => none
      | _ => none
    | none => none
  | _, _ => none
def xFieldAddr (T : Tab) (s : TypeId) (f : Nat) : Option Value → Option Value
  | some (.pointer (some ⟨b, o, none⟩)) => match fieldOf T s f with
    | some fd => match T.get fd.type with
      | some rf => if rf.size = 0 then none else some (.pointer (some ⟨b, o + fd.offset, none⟩))
      | none => none
    | none => none
  | _ => none
def xField (T : Tab) (s : TypeId) (f : Nat) : Option Value → Option Value
  | some (.agg cs) => match fieldOf T s f with
    | some fd => match T.get fd.type with
      | some rf => mkAgg rf.und ((cs.toList.drop fd.offset).take rf.size)
      | none => none
    | none => none
  | _ => none
def xIndexAddr (T : Tab) (t : TypeId) : Option Value → Option Value → Option Value
  | some (.slice (some ⟨b, o, none⟩) n _), some (.int _ k) => match T.get t with
    | some r => match r.und with
      | .slice e => match T.get e with
        | some re => if 0 ≤ k ∧ k < n then some (.pointer (some ⟨b, o + k.toNat * re.size, none⟩)) else none
        | none => none
      | _ => none
    | none => none
  | some (.pointer (some ⟨b, o, none⟩)), some (.int _ k) => match T.get t with
    | some r => match r.und with
      | .array n e => match T.get e with
        | some re => if 0 ≤ k ∧ k < n then some (.pointer (some ⟨b, o + k.toNat * re.size, none⟩)) else none
        | none => none
      | _ => none
    | none => none
  | _, _ => none
def xIndex (T : Tab) (t : TypeId) : Option Value → Option Value → Option Value
  | some (.string s), some (.int _ k) => match T.get t with
    | some r => match r.und with
      | .string => if 0 ≤ k then (match s.data.toList[k.toNat]? with | some c => some (.int .u8 c.toNat) | none => none) else none
      | _ => none
    | none => none
  | some (.agg cs), some (.int _ k) => match T.get t with
    | some r => match r.und with
      | .array n e => match T.get e with
        | some re => if 0 ≤ k ∧ k < n then mkAgg re.und ((cs.toList.drop (k.toNat * re.size)).take re.size) else none
        | none => none
      | _ => none
    | none => none
  | _, _ => none
def mapAt (H : AHeap) : Option Nat → Option (List (Value × Value))
  | none => some []
  | some b => match H.get b with
    | some (.map es _ _) => some es
    | _ => none
def xLookup (T : Tab) (H : AHeap) (t : TypeId) (ok : Bool) : Option Value → Option Value → Option Value
  | some (.map mb), some kv => match T.get t with
    | some r => match r.und with
      | .map kt et => match T.get kt, T.get et with
        | some rk, some re =>
          if !keyFits rk.und kv then none else
          match mapAt H mb with
          | none => none
          | some es => match afind kv es, re.zero with
            | some (some v), _ => some (if ok then .tuple #[v, .bool true] else v)
            | some none, some z => if plainV z then some (if ok then .tuple #[z, .bool false] else z) else none
            | _, _ => none
        | _, _ => none
      | _ => none
    | none => none
  | _, _ => none
def xUpdate (T : Tab) (H : AHeap) (t : TypeId) : Option Value → Option Value → Option Value → Option (Out × AHeap)
  | some (.map (some b)), some kv, some v => match T.get t with
    | some r => match r.und with
      | .map kt _ => match T.get kt, H.get b with
        | some rk, some (.map es bs clk) => if !keyFits rk.und kv then none else
          match afind kv es with
          | some none => some (.skip, H.put b (some (.map (aupd kv v es) (bs ++ [clk]) (clk + 1))))
          | some (some _) => some (.skip, H.put b (some (.map (aupd kv v es) bs clk)))
          | none => none
        | _, _ => none
      | _ => none
    | none => none
  | _, _, _ => none
def xRange (T : Tab) (id : Nat) (H : AHeap) (t : TypeId) : Option Value → Option (Out × AHeap)
  | some (.string s) => match T.get t with
    | some r => match r.und with
      | .string => some (.val (.pointer (some ⟨id, 0, none⟩)), H.put id (some (.siter s 0)))
      | _ => none
    | none => none
  | some (.map mb) => match T.get t with
    | some r => match r.und with
      | .map _ _ => match mb with
        | none => some (.val (.pointer (some ⟨id, 0, none⟩)), H.put id (some (.mit none 0 [] 0)))
        | some b => match H.get b with
          | some (.map _ _ clk) => some (.val (.pointer (some ⟨id, 0, none⟩)), H.put id (some (.mit (some b) clk [] clk)))
          | _ => none
      | _ => none
    | none => none
  | _ => none
def memN (x : Nat) : List Nat → Bool
  | [] => false
  | y :: l => Nat.beq x y || memN x l
def leftOf (seen : List Nat) : List (Value × Value) → List Nat → List (Value × Value × Nat)
  | (k, v) :: l, n :: ns => if memN n seen then leftOf seen l ns else (k, v, n) :: leftOf seen l ns
  | _, _ => []
/-- the next of a map's entries, where no more than one can come -/
def xNextM (H : AHeap) : Option Value → Option (Out × AHeap)
  | some (.pointer (some ⟨i, 0, none⟩)) => match H.get i with
    | some (.mit none _ _ _) => val H (some (.tuple #[.bool false]))
    | some (.mit (some b) since seen last) => match H.get b with
      | some (.map es bs clk) =>
        if !seen.isEmpty && !es.isEmpty && bs.all (fun n => Nat.ble last n) then none else
        match leftOf seen es bs with
        | [] => val H (some (.tuple #[.bool false]))
        | [(k, v, n)] => if Nat.blt n since then some (.val (.tuple #[.bool true, k, v]), H.put i (some (.mit (some b) since (seen ++ [n]) clk))) else none
        | _ => none
      | _ => none
    | _ => none
  | _ => none
def xNext (H : AHeap) : Option Value → Option (Out × AHeap)
  | some (.pointer (some ⟨b, 0, none⟩)) => match H.get b with
    | some (.siter s pos) =>
      if pos < s.size then some (.val (.tuple #[.bool true, .int .i64 pos, .int .i32 (Utf8.decode s pos).1]), H.put b (some (.siter s (pos + (Utf8.decode s pos).2))))
      else val H (some (.tuple #[.bool false]))
    | _ => none
  | _ => none
def zeroNo (r : TyRow) : Option Value :=
  match r.zero with
  | some z => if plainV z then some (.tuple #[z, .bool false]) else none
  | none => none
def xAssert (T : Tab) (as_ : TypeId) (ok : Bool) : Option Value → Option Value
  | some v => match T.get as_ with
    | some r => match r.und, v with
      | .interface _, _ => none
      | _, .nilIface => if ok then zeroNo r else none
      | _, .iface t u => if t = as_ then some (if ok then .tuple #[u, .bool true] else u) else if ok then zeroNo r else none
      | _, _ => none
    | none => none
  | none => none
def xExtract (i : Nat) : Option Value → Option Value
  | some (.tuple vs) => vs.toList[i]?
  | _ => none
def xPanic (H : AHeap) : Option Value → Option (Out × AHeap)
  | some (.iface t v) => some (.panic (.iface t v), H)
  | _ => none
def xLen (T : Tab) (H : AHeap) (t : TypeId) (x : Value) : Option Value :=
  match T.get t with
  | some r => match r.und, x with
    | .string, .string s => some (.int .i64 s.size)
    | .array n _, _ => some (.int .i64 n)
    | .slice _, .slice _ n _ => some (.int .i64 n)
    | .map _ _, .map mb => match mapAt H mb with
      | some es => some (.int .i64 es.length)
      | none => none
    | _, _ => none
  | none => none
/-- cells written at a slice's place -/
def wrote (H : AHeap) (new : List Value) (v : Value) : Option Addr → Option (Out × AHeap)
  | none => val H (some v)
  | some ⟨b, o, none⟩ => match H.get b with
    | some (.cells k tr e' g) =>
      if o + new.length ≤ k then some (.val v, H.put b (some (.cells k (tr.putAll o new) e' g)))
      else if new.length == 0 then val H (some v) else none
    | _ => none
  | _ => none
def xCopy (T : Tab) (H : AHeap) (t : TypeId) (d x : Value) : Option (Out × AHeap) :=
  match d, lenV x, T.get t with
  | .slice a n _, some m, some r => match r.und with
    | .slice e => match T.get e with
      | some re => match sliceCells re.size (min m n) x H with
        | some new => if new.length != min m n * re.size || !allOne new then none else wrote H new (.int .i64 (min m n)) a
        | none => none
      | none => none
    | _ => none
  | _, _, _ => none
def xDelete (T : Tab) (H : AHeap) (t : TypeId) (b : Nat) (k : Value) : Option (Out × AHeap) :=
  match T.get t, H.get b with
  | some r, some (.map es bs clk) => match r.und with
    | .map kt _ => match T.get kt with
      | some rk => if !keyFits rk.und k then none else
        match afind k es with
        | some none => some (.val (.tuple #[]), H.put b (some (.map es bs clk)))
        | some (some _) => some (.val (.tuple #[]), H.put b (some (.map (adel k es) (adelB k es bs) clk)))
        | none => none
      | none => none
    | _ => none
  | _, _ => none
def xClear (T : Tab) (H : AHeap) (t : TypeId) (a : Option Addr) (n : Nat) : Option (Out × AHeap) :=
  match T.get t with
  | some r => match r.und with
    | .slice e => match T.get e with
      | some re => match re.zero with
        | some z => if plainV z && (cellsL z).length == re.size && allOne (cellsL z) then wrote H (repCells n (cellsL z)) (.tuple #[]) a else none
        | none => none
      | none => none
    | _ => none
  | none => none
def xAppend (T : Tab) (id : Nat) (H : AHeap) (t u : TypeId) (s x : Value) : Option (Out × AHeap) :=
  match T.get u with
  | some ru => match ru.und with
    | .int _ => none
    | _ => match aclone T t s x id H with
      | some (v, H1) => some (.val v, H1)
      | none => match aappend T t s x id H with
        | some (v, H1) => some (.val v, H1)
        | none => none
  | none => none
/-- bytes as a string, without a copy: they are looked at no more -/
def xUStr (T : Tab) (H : AHeap) (pt : TypeId) : List Value → Option (Out × AHeap)
  | [.pointer p, .int .i64 n] => if n = 0 then some (.val (.string ⟨#[]⟩), H) else match p, T.get pt with
    | some ⟨b, o, none⟩, some r => match r.und, H.get b with
      | .pointer e', some (.cells k tr e (some 1)) => match T.get e with
        | some re => if Nat.beq e e' && Nat.beq re.size 1 && decide (0 < n) && decide (n ≤ 9223372036854775807) && decide (o + n.toNat ≤ k) then
            (match tr.row o n.toNat with
            | some l => match bytesOfCells l with
              | some bs => some (.val (.string ⟨⟨bs⟩⟩), H.put b none)
              | none => none
            | none => none) else none
        | none => none
      | _, _ => none
    | _, _ => none
  | _ => none
def xSData : List Value → Option Value
  | [.slice none _ _] => some (.pointer none)
  | [.slice (some ⟨b, o, none⟩) _ c] => if Nat.beq c 0 then none else some (.pointer (some ⟨b, o, none⟩))
  | _ => none
def xMax (f : Int → Int → Bool) : List Value → Option Value
  | [.int k a, .int k' b] => if k = k' then some (.int k (if f b a then b else a)) else none
  | _ => none
def xBuiltin (T : Tab) (id : Nat) (H : AHeap) (b : Builtin) (ts : List TypeId) (args : List Value) : Option (Out × AHeap) :=
  match b with
  | .append => match ts, args with
    | t :: u :: _, s :: x :: _ => xAppend T id H t u s x
    | _, _ => none
  | .len => match ts, args with
    | t :: _, x :: _ => val H (xLen T H t x)
    | _, _ => none
  | .max => val H (xMax (fun b a => decide (b > a)) args)
  | .min => val H (xMax (fun b a => decide (b < a)) args)
  | .copy => match ts, args with
    | t :: _, d :: x :: _ => xCopy T H t d x
    | _, _ => none
  | .delete => match ts, args with
    | t :: _, .map (some b) :: k :: _ => xDelete T H t b k
    | _, _ => none
  | .clear => match ts, args with
    | t :: _, .slice a n _ :: _ => xClear T H t a n
    | _, _ => none
  | .panic => match args with
    | v :: _ => xPanic H (some v)
    | _ => none
  | .unsafeSliceData => val H (xSData args)
  | .unsafeString => match ts with
    | t :: tl => if Nat.beq tl.length 1 then xUStr T H t args else none
    | _ => none
  | _ => none
def xCall (H : AHeap) (args : List Value) : Option Value → Option (Out × AHeap)
  | some (.func (.func k) x y) => some (.call (.func k) (x.toList ++ args ++ y.toList), H)
  | some (.func (.yield b) ⟨[]⟩ ⟨[]⟩) => some (.call (.yield b) args, H)
  | _ => none
def xCalls (T : Tab) (id : Nat) (env : AEnv) (H : AHeap) (c : Call) : Option (List Value) → Option (Out × AHeap)
  | none => none
  | some args => match c.callee with
    | .value f => xCall H args (ev env f)
    | .invoke _ _ => none
    | .builtin b => xBuiltin T id H b c.argTypes.toList args
def xDefer (env : AEnv) (H : AHeap) (c : Call) : Option (List Value) → Option (Out × AHeap)
  | none => none
  | some args => match c.callee with
    | .value f => match ev env f with
      | some (.func (.func k) x y) => some (.defer ⟨k, x.toList ++ args, y.toList, none⟩, H)
      | _ => none
    | _ => none
def xStore (T : Tab) (H : AHeap) (t : TypeId) : Option Value → Option Value → Option (Out × AHeap)
  | some p, some v => match astore T t p v H with
    | some H1 => some (.skip, H1)
    | none => none
  | _, _ => none
def bind2 (f : Value → Value → Option Value) : Option Value → Option Value → Option Value
  | some a, some b => f a b
  | _, _ => none
def bind1 {α : Type} (f : Value → Option α) : Option Value → Option α
  | some a => f a
  | none => none
def bindP {α : Type} (f : List (Nat × Value) → Option α) : Option (List (Nat × Value)) → Option α
  | some a => f a
  | none => none
def xSlice (T : Tab) (H : AHeap) (t : TypeId) : Option Value → Option (Option Value) → Option (Option Value) → Option (Option Value) → Option Value
  | some v, some l, some h, some m => aslice T t v l h m H
  | _, _, _, _ => none

def xMakeMap (T : Tab) (id : Nat) (H : AHeap) (t : TypeId) : Option (Out × AHeap) :=
  match T.get t with
  | some r => match r.und with
    | .map _ _ => some (.val (.map (some id)), H.put id (some (.map [] [] 0)))
    | _ => none
  | none => none

/-- an operation that calls nothing: what it yields, and the memory behind it -/
def aop (T : Tab) (id : Nat) (env : AEnv) (H : AHeap) : Op → Option (Out × AHeap)
  | .move x | .assign x => val H (ev env x)
  | .pick c a b => val H (xPick env c a b)
  | .alloc e => xAlloc T id H e
  | .box e x => xBox id H e (ev env x)
  | .build t ps => val H (bindP (xBuild T t) (evParts env ps.toList))
  | .buildSlice t n ps => bindP (xBuildSlice T id H t n) (evParts env ps.toList)
  | .load t a => val H (bind1 (fun p => aload T t p H) (ev env a))
  | .store t a x => xStore T H t (ev env a) (ev env x)
  | .nilCheck x => val H (xNil (ev env x))
  | .binOp op t x y _ => val H (bind2 (abinG T op t (isConst x || isConst y)) (ev env x) (ev env y))
  | .unOp op _ x => val H (bind1 (aun op) (ev env x))
  | .convert s d x => bind1 (xConvert T id H s d) (ev env x)
  | .makeInterface t x => val H (bind1 (xIface T t) (ev env x))
  | .makeFunc fn fi ca => val H (xFunc fn (evs env fi.toList) (evs env ca.toList))
  | .makeMap t none => xMakeMap T id H t
  | .makeMap t (some (.const (.int _ _))) => xMakeMap T id H t
  | .makeSlice t l c => xMakeSlice T id H t (ev env l) (ev env c)
  | .slice t x lo hi mx => val H (xSlice T H t (ev env x) (optEv env lo) (optEv env hi) (optEv env mx))
  | .fieldAddr s x f => val H (xFieldAddr T s f (ev env x))
  | .field s x f => val H (xField T s f (ev env x))
  | .indexAddr t x i => val H (xIndexAddr T t (ev env x) (ev env i))
  | .index t x i => val H (xIndex T t (ev env x) (ev env i))
  | .lookup t x k ok => val H (xLookup T H t ok (ev env x) (ev env k))
  | .mapUpdate t m k x | .insert t m k x => xUpdate T H t (ev env m) (ev env k) (ev env x)
  | .range t x => xRange T id H t (ev env x)
  | .next it true => xNext H (ev env it)
  | .next it false => xNextM H (ev env it)
  | .typeAssert x _ as_ ok => val H (xAssert T as_ ok (ev env x))
  | .extract t i => val H (xExtract i (ev env t))
  | .panic x => xPanic H (ev env x)
  | .call c => xCalls T id env H c (evs env c.args.toList)
  | .defer c => xDefer env H c (evs env c.args.toList)
  | _ => none

/-! a region, in the text's order -/
structure Fn1 where
  ntmps : Nat
  res : List ResultVar
  body : Code
inductive Ex where
  | normal
  | exit (id : Nat)
  | goto (l : Nat)
  | ret
  | panic (v : Value)
structure St where
  env : AEnv
  H : AHeap
  ds : List ADef
/-- what a call comes to -/
inductive Ret where
  | ret (v : Value)
  | panic (v : Value)
abbrev CallF := Fn → List Value → AHeap → Option (Ret × AHeap)

def putT (nt : Nat) (env : AEnv) : Option Tmp → Value → Option AEnv
  | none, _ => some env
  | some d, v => if d < nt then some (env.set d v) else none
/-- is a guarded operation carried out? -/
def wants (ops : List Oper) (env : AEnv) (o : Oper) : Option Bool :=
  match o.guard with
  | none => some true
  | some (j, w) => match ops[j]? with
    | some p => match p.dst with
      | some d => match env.get d with
        | some (.bool b) => some (b == w)
        | some (.tuple _) => some false
        | _ => none
      | none => none
    | none => none
def idOf (stamp i : Nat) : Nat := stamp * 256 + i
def stPut (nt : Nat) (env : AEnv) (dst : Option Tmp) (v : Value) (H : AHeap) (ds : List ADef) : Option (Option Value × St) :=
  match putT nt env dst v with
  | some e => some (none, ⟨e, H, ds⟩)
  | none => none
def opStep (T : Tab) (nt : Nat) (C : CallF) (ops : List Oper) (stamp i : Nat) (o : Oper) (s : St) : Option (Option Value × St) :=
  if Nat.ble 256 i then none else
  match wants ops s.env o with
  | none => none
  | some false => stPut nt s.env o.dst undef s.H s.ds
  | some true => match aop T (idOf stamp i) s.env s.H o.op with
    | none => none
    | some (.val v, H) => stPut nt s.env o.dst v ⟨s.H.next, H.blk⟩ s.ds
    | some (.skip, H) => stPut nt s.env o.dst undef ⟨s.H.next, H.blk⟩ s.ds
    | some (.defer d, _) => stPut nt s.env o.dst undef s.H (d :: s.ds)
    | some (.panic v, _) => some (some v, s)
    | some (.call f args, _) => match C f args s.H with
      | none => none
      | some (.ret v, H) => stPut nt s.env o.dst v H s.ds
      | some (.panic v, H) => some (some v, ⟨s.env, H, s.ds⟩)
def runOps (T : Tab) (nt : Nat) (C : CallF) (ops : List Oper) (stamp : Nat) : Nat → List Oper → St → Option (Ex × St)
  | _, [], s => some (.normal, s)
  | i, o :: l, s => match opStep T nt C ops stamp i o s with
    | none => none
    | some (some v, s) => some (.panic v, s)
    | some (none, s) => runOps T nt C ops stamp (i + 1) l s

/-! a region in any order: the operations that change nothing may be carried out sooner or later, and must answer the same wherever they may stand -/
def isFloat (T : Tab) : Op → Bool
  | .move _ | .assign _ | .pick _ _ _ | .build _ _ | .load _ _ | .nilCheck _ | .binOp _ _ _ _ _ | .unOp _ _ _ | .makeInterface _ _ | .makeFunc _ _ _ | .slice _ _ _ _ _ | .fieldAddr _ _ _ | .field _ _ _
  | .indexAddr _ _ _ | .index _ _ _ | .lookup _ _ _ _ | .typeAssert _ _ _ _ | .extract _ _ => true
  | .convert _ d _ => match T.get d with
    | some r => match r.und with
      | .slice _ => false
      | _ => true
    | none => false
  | .call c => match c.callee with
    | .builtin .len | .builtin .min | .builtin .max | .builtin .unsafeSliceData => true
    | _ => false
  | _ => false
/-- a variable's memory may be laid sooner or later, too -/
def isFl (T : Tab) : Op → Bool
  | .alloc _ => true
  | op => isFloat T op
def zeroBlk (T : Tab) (e : TypeId) : Option ABlk :=
  match T.get e with
  | some r => match r.zero with
    | some z => if plainV z && allOne (cellsL z) then some (.cells (cellsL z).length (Tr.emp.putAll 0 (cellsL z)) e none) else none
    | none => none
  | none => none
def looks (ops : List Oper) (o : Oper) : List Tmp :=
  let l := o.op.operands.toList.filterMap fun | .tmp t => some t | _ => none
  match o.guard with
  | none => l
  | some (g, _) => match ops[g]? with
    | some p => match p.dst with
      | some d => d :: l
      | none => l
    | none => l
def addN (x : Nat) (l : List Nat) : List Nat := if memN x l then l else x :: l
def addAll : List Nat → List Nat → List Nat
  | [], l => l
  | x :: m, l => addAll m (addN x l)
def direct (o : Oper) : List Nat := (o.after.toList.filter (Region.binds .any)).map (·.on)
/-- what is carried out ahead of each operation, whatever the order -/
def before (t : Tr (List Nat)) : List Nat → List Nat → List Nat
  | [], l => l
  | j :: m, l => before t m (match t.get j with
    | some k => addAll k (addN j l)
    | none => addN j l)
def closeB : Nat → List Oper → Tr (List Nat) → Tr (List Nat)
  | _, [], t => t
  | i, o :: l, t => closeB (i + 1) l (t.set i (before t (direct o) []))
def ltAll (i : Nat) : List Nat → Bool
  | [] => true
  | j :: l => Nat.blt j i && ltAll i l
/-- lays new memory, and looks at none -/
def mkOp : Op → Bool
  | .makeSlice _ _ _ | .box _ _ | .buildSlice _ _ _ | .makeMap _ _ => true
  | _ => false
def noLook (ops : List Oper) (o : Oper) : List Oper → Bool
  | [] => true
  | p :: l => (match p.op, p.dst with
    | .alloc _, some d => !memN d (looks ops o)
    | _, _ => true) && noLook ops o l
def mkr (ops : List Oper) (o : Oper) : Bool := mkOp o.op && noLook ops o ops
/-- must the first of two operations come ahead of the second? -/
def clash (T : Tab) (ops : List Oper) (p o : Oper) : Bool :=
  (!isFl T p.op && !isFl T o.op && !(mkr ops p && mkr ops o)) ||
  (match p.dst with
   | some d => memN d (looks ops o) || (match o.dst with | some e => Nat.beq d e | none => false)
   | none => false) ||
  (match o.dst with
   | some d => memN d (looks ops p)
   | none => false)
def aheadOk (T : Tab) (ops : List Oper) (o : Oper) (b : List Nat) : Nat → List Oper → Bool
  | _, [] => true
  | j, p :: l => (memN j b || !clash T ops p o) && aheadOk T ops o b (j + 1) l
def fits (T : Tab) (ops : List Oper) (t : Tr (List Nat)) : Nat → List Oper → Bool
  | _, [] => true
  | i, o :: l => ltAll i (direct o) && (match t.get i with
    | some b => aheadOk T ops o b 0 (ops.take i)
    | none => false) && fits T ops t (i + 1) l
def only (env : AEnv) : List Tmp → AEnv
  | [] => .emp
  | t :: l => match env.get t with
    | some v => (only env l).set t v
    | none => only env l
/-- does one of the first i operations that change something look at d? -/
def seenBy (T : Tab) (ops : List Oper) (d : Tmp) : Nat → List Oper → Bool
  | 0, _ => false
  | _ + 1, [] => false
  | i + 1, o :: l => (!isFl T o.op && memN d (looks ops o)) || seenBy T ops d i l
/-- memory that was laid, and is looked at from now on -/
def mater (T : Tab) (stamp : Nat) (want : Tmp → Bool) : Nat → List Oper → AHeap → AHeap
  | _, [], H => H
  | j, p :: l, H => mater T stamp want (j + 1) l (match p.op, p.dst with
    | .alloc e, some d => (match want d, zeroBlk T e with
      | true, some B => H.put (idOf stamp j) (some B)
      | _, _ => H)
    | _, _ => H)
def matAt (T : Tab) (ops : List Oper) (stamp i : Nat) (o : Oper) (H : AHeap) : AHeap := mater T stamp (fun d => memN d (looks ops o) && !seenBy T ops d i ops) 0 (ops.take i) H
def matEnd (T : Tab) (ops : List Oper) (stamp : Nat) (H : AHeap) : AHeap := mater T stamp (fun d => !seenBy T ops d ops.length ops) 0 ops H
def isAlloc : Op → Bool
  | .alloc _ => true
  | _ => false
def opStepL (T : Tab) (nt : Nat) (C : CallF) (ops : List Oper) (stamp i : Nat) (o : Oper) (s : St) : Option (Option Value × St) :=
  match o.op with
  | .alloc e => if Nat.ble 256 i then none else match o.guard, zeroBlk T e with
    | none, some _ => stPut nt s.env o.dst (.pointer (some ⟨idOf stamp i, 0, none⟩)) s.H s.ds
    | _, _ => none
  | op => match isFloat T op with
    | true => opStep T nt C ops stamp i o s
    | false => opStep T nt C ops stamp i o ⟨s.env, matAt T ops stamp i o s.H, s.ds⟩
structure Rec where
  i : Nat
  o : Oper
  e : AEnv
  s : St
def putBack (env : AEnv) (dst : Option Tmp) (e : AEnv) : Option AEnv :=
  match dst with
  | none => some env
  | some d => match e.get d with
    | some v => some (env.set d v)
    | none => none
def passAny (T : Tab) (nt : Nat) (C : CallF) (ops : List Oper) (stamp : Nat) : Nat → List Oper → AEnv → AHeap → Option (List Rec × AEnv × AHeap)
  | _, [], env, H => some ([], env, H)
  | i, o :: l, env, H => match opStepL T nt C ops stamp i o ⟨only env (looks ops o), H, []⟩ with
    | some (none, ⟨e1, H1, []⟩) => match putBack env o.dst e1 with
      | some env' => match passAny T nt C ops stamp (i + 1) l env' H1 with
        | some (rs, r) => some (⟨i, o, only env (looks ops o), ⟨e1, H1, []⟩⟩ :: rs, r)
        | none => none
      | none => none
    | _ => none
/-- sure equality -/
def vEq1 : Value → Value → Bool
  | .bool a, .bool b => a == b
  | .int k a, .int k' b => decide (k = k') && decide (a = b)
  | .string a, .string b => listEq a.data.toList b.data.toList
  | .pointer none, .pointer none => true
  | .pointer (some ⟨b, o, none⟩), .pointer (some ⟨b', o', none⟩) => Nat.beq b b' && Nat.beq o o'
  | .slice none n c, .slice none n' c' => Nat.beq n n' && Nat.beq c c'
  | .slice (some ⟨b, o, none⟩) n c, .slice (some ⟨b', o', none⟩) n' c' => Nat.beq b b' && Nat.beq o o' && Nat.beq n n' && Nat.beq c c'
  | .map none, .map none => true
  | .map (some b), .map (some b') => Nat.beq b b'
  | .nilFunc, .nilFunc => true
  | .nilIface, .nilIface => true
  | .func (.func k) x y, .func (.func k') x' y' => Nat.beq k k' && x.toList.isEmpty && x'.toList.isEmpty && y.toList.isEmpty && y'.toList.isEmpty
  | _, _ => false
def vEqs : List Value → List Value → Bool
  | [], [] => true
  | a :: x, b :: y => vEq1 a b && vEqs x y
  | _, _ => false
def vEqA : Value → Value → Bool
  | .agg x, .agg y => vEqs x.toList y.toList
  | .iface t v, .iface t' v' => decide (t = t') && vEq1 v v'
  | a, b => vEq1 a b
def vEqAs : List Value → List Value → Bool
  | [], [] => true
  | a :: x, b :: y => vEqA a b && vEqAs x y
  | _, _ => false
def vEq2 : Value → Value → Bool
  | .agg x, .agg y => vEqs x.toList y.toList
  | .tuple x, .tuple y => vEqAs x.toList y.toList
  | .iface t v, .iface t' v' => decide (t = t') && vEq1 v v'
  | a, b => vEq1 a b
def oEq : Option Value → Option Value → Bool
  | some a, some b => vEq2 a b
  | _, _ => false
def againOk (T : Tab) (nt : Nat) (C : CallF) (ops : List Oper) (stamp : Nat) (r : Rec) (H : AHeap) : Bool :=
  match opStepL T nt C ops stamp r.i r.o ⟨r.e, H, []⟩ with
  | some (none, ⟨e, _, []⟩) => match r.o.dst with
    | none => true
    | some d => oEq (r.s.env.get d) (e.get d)
  | _ => false
def isAhead (t : Tr (List Nat)) (i j : Nat) : Bool :=
  match t.get j with
  | some b => memN i b
  | none => false
/-- wherever it may stand among the operations that change something -/
def floatOk (T : Tab) (nt : Nat) (C : CallF) (ops : List Oper) (stamp : Nat) (t : Tr (List Nat)) (r : Rec) : Option Nat → AHeap → List Rec → Bool
  | p, H, [] => (match p with | some j => isAhead t r.i j | none => false) || againOk T nt C ops stamp r H
  | p, H, q :: l => ((match p with | some j => isAhead t r.i j | none => false) || isAhead t q.i r.i || againOk T nt C ops stamp r H) && floatOk T nt C ops stamp t r (some q.i) q.s.H l
def floatsOk (T : Tab) (nt : Nat) (C : CallF) (ops : List Oper) (stamp : Nat) (t : Tr (List Nat)) (H : AHeap) (es : List Rec) : List Rec → Bool
  | [] => true
  | r :: l => (if isFl T r.o.op then floatOk T nt C ops stamp t r none H es else true) && floatsOk T nt C ops stamp t H es l
/-- what changes something has one order -/
def strictTo (T : Tab) (t : Tr (List Nat)) (i : Nat) : Nat → List Oper → Bool
  | _, [] => true
  | j, q :: l => (isFl T q.op || isAhead t j i) && strictTo T t i (j + 1) l
def strictAll (T : Tab) (ops : List Oper) (t : Tr (List Nat)) : Nat → List Oper → Bool
  | _, [] => true
  | i, o :: l => (isFl T o.op || strictTo T t i 0 (ops.take i)) && strictAll T ops t (i + 1) l
def runAny (T : Tab) (nt : Nat) (C : CallF) (ops : List Oper) (s : St) : Option (Ex × St) :=
  match fits T ops (closeB 0 ops .emp) 0 ops && strictAll T ops (closeB 0 ops .emp) 0 ops with
  | false => none
  | true => match passAny T nt C ops s.H.next 0 ops s.env ⟨s.H.next + 1, s.H.blk⟩ with
    | none => none
    | some (rs, env, H) => match floatsOk T nt C ops s.H.next (closeB 0 ops .emp) ⟨s.H.next + 1, s.H.blk⟩ (rs.filter fun r => !isFl T r.o.op) rs with
      | true => some (.normal, ⟨env, matEnd T ops s.H.next H, s.ds⟩)
      | false => none

/-! a region in any order, where the order cannot matter: what looks at memory has its place, what has none looks at none -/
def noMem (T : Tab) : Op → Bool
  | .alloc _ | .move _ | .assign _ | .pick _ _ _ | .build _ _ | .nilCheck _ | .binOp _ _ _ _ _ | .unOp _ _ _ | .makeInterface _ _ | .makeFunc _ _ _ | .fieldAddr _ _ _ | .field _ _ _
  | .indexAddr _ _ _ | .index _ _ _ | .typeAssert _ _ _ _ | .extract _ _ => true
  | .slice t _ _ _ _ => match T.get t with
    | some r => match r.und with
      | .string => true
      | _ => false
    | none => false
  | .convert _ d _ => match T.get d with
    | some r => match r.und with
      | .int _ => true
      | _ => false
    | none => false
  | .call c => match c.callee with
    | .builtin .min | .builtin .max | .builtin .unsafeSliceData => true
    | .builtin .len => match c.argTypes.toList with
      | t :: _ => match T.get t with
        | some r => match r.und with
          | .map _ _ => false
          | _ => true
        | none => false
      | [] => false
    | _ => false
  | _ => false
def ordAll (T : Tab) (t : Tr (List Nat)) (i : Nat) : Nat → List Oper → Bool
  | _, [] => true
  | j, q :: l => (isFl T q.op || (if Nat.blt j i then isAhead t j i else isAhead t i j)) && ordAll T t i (j + 1) l
def easyAll (T : Tab) (ops : List Oper) (t : Tr (List Nat)) : Nat → List Oper → Bool
  | _, [] => true
  | i, o :: l => (!isFl T o.op || noMem T o.op || ordAll T t i 0 ops) && easyAll T ops t (i + 1) l
def easyR (T : Tab) (ops : List Oper) : Bool := fits T ops (closeB 0 ops .emp) 0 ops && easyAll T ops (closeB 0 ops .emp) 0 ops
def passE (T : Tab) (nt : Nat) (C : CallF) (ops : List Oper) (stamp : Nat) : Nat → List Oper → AEnv → AHeap → Option (AEnv × AHeap)
  | _, [], env, H => some (env, H)
  | i, o :: l, env, H => match opStepL T nt C ops stamp i o ⟨env, H, []⟩ with
    | some (none, ⟨e1, H1, []⟩) => passE T nt C ops stamp (i + 1) l e1 H1
    | _ => none
def runEasy (T : Tab) (nt : Nat) (C : CallF) (ops : List Oper) (s : St) : Option (Ex × St) :=
  match passE T nt C ops s.H.next 0 ops s.env ⟨s.H.next + 1, s.H.blk⟩ with
  | some (env, H) => some (.normal, ⟨env, matEnd T ops s.H.next H, s.ds⟩)
  | none => none
def runAnyE (T : Tab) (nt : Nat) (C : CallF) (ops : List Oper) (s : St) : Option (Ex × St) :=
  match easyR T ops with
  | true => runEasy T nt C ops s
  | false => runAny T nt C ops s

def aresult (T : Tab) (env : AEnv) (H : AHeap) : ResultVar → Option Value
  | .tmp t => env.get t
  | .cell a t => match env.get a with
    | some p => aload T t p H
    | none => none
def aresults (T : Tab) (env : AEnv) (H : AHeap) : List ResultVar → Option (List Value)
  | [] => some []
  | r :: l => match aresult T env H r, aresults T env H l with
    | some v, some vs => some (v :: vs)
    | _, _ => none
def one1 : List Value → Value
  | [v] => v
  | l => .tuple ⟨l⟩
def putArgs : Nat → List Value → AEnv → AEnv
  | _, [], e => e
  | i, v :: l, e => putArgs (i + 1) l (e.set i v)

/-- behind a goto: from the label on, within the same scope -/
def scopeGo (rec : Code → St → Option (Ex × St)) (b : Code) : Nat → Option (Ex × St) → Option (Ex × St)
  | 0, _ => none
  | n + 1, some (.goto l, s) => match findLabel b l with
    | some rest => scopeGo rec b n (rec rest s)
    | none => some (.goto l, s)
  | _ + 1, r => r
/-- code that may be a round's: it puts nothing off, and holds no range over a function -/
def noDefer : Op → Bool
  | .defer _ => false
  | _ => true
def noDefers : List Oper → Bool
  | [] => true
  | o :: l => noDefer o.op && noDefers l
def plainR : Code → Bool
  | .skip | .label _ | .exit _ | .goto _ | .ret => true
  | .region _ ops _ => noDefers ops.toList
  | .seq a b | .cond _ a b => plainR a && plainR b
  | .block _ b | .loop b => plainR b
  | _ => false
def ltAllT (n : Nat) : List Tmp → Bool
  | [] => true
  | t :: l => Nat.blt t n && ltAllT n l
/-- what a round has left to be done -/
def rangeEnd (s : St) (D : Nat) (L : Nat) (H : AHeap) : Option (Ex × St) :=
  match H.get L with
  | some (.loop r) => match r.st with
    | .busy => none
    | _ => match r.pend with
      | none => some (.normal, ⟨s.env, H.put L none, ⟨0, [], [], some D⟩ :: s.ds⟩)
      | some .ret => some (.ret, ⟨s.env, H.put L none, ⟨0, [], [], some D⟩ :: s.ds⟩)
      | some (.exit i) => some (.exit i, ⟨s.env, H.put L none, ⟨0, [], [], some D⟩ :: s.ds⟩)
      | some (.goto i) => some (.goto i, ⟨s.env, H.put L none, ⟨0, [], [], some D⟩ :: s.ds⟩)
      | _ => none
  | _ => none
def rangeHeap (nt : Nat) (s : St) (ps : List Tmp) (x y : Code) : AHeap :=
  AHeap.put (AHeap.put ⟨s.H.next + 1, s.H.blk⟩ (s.H.next * 256) (some .dfr)) (s.H.next * 256 + 1) (some (.loop ⟨.ready, none, s.env, nt, ps, x, y⟩))
def rangeGo (nt : Nat) (C : CallF) (g : Option Value) (ps : List Tmp) (x y : Code) (s : St) : Option (Ex × St) :=
  match plainR x && plainR y && ltAllT nt ps with
  | false => none
  | true => match g with
    | some (.func (.func f) a b) => match C (.methodOf f "") (a.toList ++ [.func (.yield (s.H.next * 256 + 1)) #[] #[]] ++ b.toList) (rangeHeap nt s ps x y) with
      | some (.ret _, H) => rangeEnd s (s.H.next * 256) (s.H.next * 256 + 1) H
      | some (.panic v, H) => some (.panic v, ⟨s.env, H, ⟨0, [], [], some (s.H.next * 256)⟩ :: s.ds⟩)
      | none => none
    | _ => none
def step (T : Tab) (nt : Nat) (C : CallF) (rec : Code → St → Option (Ex × St)) : Code → St → Option (Ex × St)
  | .skip, s => some (.normal, s)
  | .label _, s => some (.normal, s)
  | .exit id, s => some (.exit id, s)
  | .goto l, s => some (.goto l, s)
  | .ret, s => some (.ret, s)
  | .region _ ops draw, s => if draw then runAnyE T nt C ops.toList s else runOps T nt C ops.toList s.H.next 0 ops.toList ⟨s.env, ⟨s.H.next + 1, s.H.blk⟩, s.ds⟩
  | .seq a b, s => match rec a s with
    | some (.normal, s) => rec b s
    | r => r
  | .cond c a b, s => match ev s.env c with
    | some (.bool true) => rec a s
    | some (.bool false) => rec b s
    | _ => none
  | .block id b, s => match rec b s with
    | some (.exit j, s) => if j = id then some (.normal, s) else some (.exit j, s)
    | r => r
  | .scope b, s => scopeGo rec b 100 (rec b s)
  | .loop b, s => match rec b s with
    | some (.normal, s) => rec (.loop b) s
    | r => r
  | .rangeFunc g ps x y, s => rangeGo nt C (ev s.env g) ps.toList x y s
  | _, _ => none

def run (T : Tab) (nt : Nat) (C : CallF) : Nat → Code → St → Option (Ex × St)
  | 0 => fun _ _ => none
  | n + 1 => step T nt C (run T nt C n)

/-! code of a function that is called at the end: what the caller panicked with, if not yet recovered; was it recovered? -/
structure StD where
  s : St
  u : Option Value
  got : Bool
def opStepD (T : Tab) (nt : Nat) (C : CallF) (ops : List Oper) (stamp i : Nat) (o : Oper) (s : StD) : Option (Option Value × StD) :=
  match wants ops s.s.env o, o.op with
  | some true, .call ⟨.builtin .recover, _, _⟩ => if Nat.ble 256 i then none else match s.u, s.got with
    | some v, false => match putT nt s.s.env o.dst v with
      | some e => some (none, ⟨⟨e, s.s.H, s.s.ds⟩, some v, true⟩)
      | none => none
    | u, b => match putT nt s.s.env o.dst .nilIface with
      | some e => some (none, ⟨⟨e, s.s.H, s.s.ds⟩, u, b⟩)
      | none => none
  | _, _ => match opStep T nt C ops stamp i o s.s with
    | some (p, s1) => some (p, ⟨s1, s.u, s.got⟩)
    | none => none
def runOpsD (T : Tab) (nt : Nat) (C : CallF) (ops : List Oper) (stamp : Nat) : Nat → List Oper → StD → Option (Ex × StD)
  | _, [], s => some (.normal, s)
  | i, o :: l, s => match opStepD T nt C ops stamp i o s with
    | none => none
    | some (some v, s) => some (.panic v, s)
    | some (none, s) => runOpsD T nt C ops stamp (i + 1) l s
def liftD (s : StD) : Option (Ex × St) → Option (Ex × StD)
  | some (x, s1) => some (x, ⟨s1, s.u, s.got⟩)
  | none => none
def runD (T : Tab) (nt : Nat) (C : CallF) (fuel : Nat) : Nat → Code → StD → Option (Ex × StD)
  | 0, _, _ => none
  | n + 1, .seq a b, s => match runD T nt C fuel n a s with
    | some (.normal, s) => runD T nt C fuel n b s
    | r => r
  | _ + 1, .region _ ops false, s => runOpsD T nt C ops.toList s.s.H.next 0 ops.toList ⟨⟨s.s.env, ⟨s.s.H.next + 1, s.s.H.blk⟩, s.s.ds⟩, s.u, s.got⟩
  | _ + 1, c, s => liftD s (run T nt C fuel c s.s)

/-- the program's functions; those that are told by a law of their own -/
structure Prg where
  tab : Tab
  fns : Tr Fn1
  law : Tr (List Value → AHeap → Option (Ret × AHeap))
def noYield (C : CallF) : CallF := fun f args H =>
  match f with
  | .yield _ => none
  | f => C f args H
/-- the functions that are called at the end -/
def leaveF (P : Prg) (fuel : Nat) (C : CallF) (fn : Fn1) (env : AEnv) : List ADef → Option Value → AHeap → Option (Ret × AHeap)
  | [], none, H => match aresults P.tab env H fn.res with
    | some vs => some (.ret (one1 vs), H)
    | none => none
  | [], some v, H => some (.panic v, H)
  | d :: ds, u, H => match d.col with
    | some D => match H.get D with
      | some .dfr => leaveF P fuel C fn env ds u (H.put D none)
      | _ => none
    | none => match P.fns.get d.f with
    | none => none
    | some g => if Nat.blt g.ntmps (d.args ++ d.cap).length then none else
      match runD P.tab g.ntmps (noYield C) fuel 20 g.body ⟨⟨putArgs 0 (d.args ++ d.cap) .emp, H, []⟩, u, false⟩ with
      | some (.normal, ⟨⟨e, H1, []⟩, u1, b⟩) | some (.ret, ⟨⟨e, H1, []⟩, u1, b⟩) => match aresults P.tab e H1 g.res with
        | some _ => leaveF P fuel C fn env ds (if b then none else u1) H1
        | none => none
      | some (.panic v, ⟨⟨_, H1, []⟩, none, _⟩) => leaveF P fuel C fn env ds (some v) H1
      | _ => none
def enterF (P : Prg) (fuel : Nat) (C : CallF) (fn : Fn1) (args : List Value) (H : AHeap) : Option (Ret × AHeap) :=
  if Nat.blt fn.ntmps args.length then none else
  match run P.tab fn.ntmps C fuel fn.body ⟨putArgs 0 args .emp, H, []⟩ with
  | some (.normal, s) | some (.ret, s) => leaveF P fuel C fn s.env s.ds none s.H
  | some (.panic v, s) => leaveF P fuel C fn s.env s.ds (some v) s.H
  | _ => none
/-- a round of a range over a function -/
def putPs : List Tmp → List Value → AEnv → Option AEnv
  | [], [], e => some e
  | t :: ts, v :: vs, e => putPs ts vs (e.set t v)
  | _, _, _ => none
def roundEnd (b : Nat) (jump : Option Code) (H : AHeap) : Option (Ret × AHeap) :=
  match H.get b with
  | some (.loop r) => some (.ret (.bool jump.isNone), H.put b (some (.loop ⟨if jump.isNone then .ready else .done, jump, r.env, r.nt, r.ps, r.asg, r.body⟩)))
  | _ => none
def roundMid (T : Tab) (fuel : Nat) (C : CallF) (b : Nat) (nt : Nat) (body : Code) (e : AEnv) (H : AHeap) : Option (Ret × AHeap) :=
  match H.get b with
  | some (.loop r) => match r.st with
    | .ready => match run T nt C fuel body ⟨e, H.put b (some (.loop ⟨.busy, r.pend, r.env, r.nt, r.ps, r.asg, r.body⟩)), []⟩ with
      | some (.normal, s) => roundEnd b none s.H
      | some (.ret, s) => roundEnd b (some .ret) s.H
      | some (.exit i, s) => roundEnd b (some (.exit i)) s.H
      | some (.goto i, s) => roundEnd b (some (.goto i)) s.H
      | _ => none
    | _ => none
  | _ => none
def roundF (T : Tab) (fuel : Nat) (C : CallF) (b : Nat) (args : List Value) (H : AHeap) : Option (Ret × AHeap) :=
  match H.get b with
  | some (.loop r) => match plainR r.asg && plainR r.body && ltAllT r.nt r.ps with
    | false => none
    | true => match putPs r.ps args r.env with
      | none => none
      | some e => match run T r.nt C fuel r.asg ⟨e, H, []⟩ with
        | some (.normal, ⟨e1, H1, []⟩) => roundMid T fuel C b r.nt r.body e1 H1
        | _ => none
  | _ => none
def callN (P : Prg) (fuel : Nat) : Nat → CallF
  | 0 => fun _ _ _ => none
  | n + 1 => fun fn args H => match fn with
    | .func f => match P.law.get f with
      | some k => k args H
      | none => match P.fns.get f with
        | some fn => enterF P fuel (callN P fuel n) fn args H
        | none => none
    | .yield b => roundF P.tab fuel (callN P fuel n) b args H
    | .methodOf f _ => match P.fns.get f with   -- a function with a body, that is ranged over
      | some fn => enterF P fuel (callN P fuel n) fn args H
      | none => none
    | _ => none
end
end Go.Proofs.YtkgmpkoamicheaaGreatDoor.M
