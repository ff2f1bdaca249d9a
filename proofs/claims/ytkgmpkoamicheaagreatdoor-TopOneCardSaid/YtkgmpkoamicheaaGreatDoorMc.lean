/- A quick way to run Go code on known data: the operations. It answers only where the answer hangs on nothing that is left open. No program in it. -/
import Derived.Test.YtkgmpkoamicheaaGreatDoorMb
namespace Go.Proofs.YtkgmpkoamicheaaGreatDoor.M
noncomputable section

structure TyRow where
  und : TypeDesc
  size : Nat
  bytes : Nat
  zero : Option Value
  eq : Bool   -- a struct whose values may be compared without a look at the type again
abbrev Tab := Tr TyRow

def isYield : Fn → Bool
  | .yield _ => true
  | _ => false
def plain1 : Value → Bool
  | .bool _ | .int _ _ | .string _ | .pointer none | .slice none _ _ | .map none | .nilFunc | .nilIface => true
  | .func fn x y => x.toList.isEmpty && y.toList.isEmpty && !isYield fn
  | _ => false
def plainAll : List Value → Bool
  | [] => true
  | v :: l => plain1 v && plainAll l
def plain2 : Value → Bool
  | .agg cs => plainAll cs.toList
  | .tuple cs => plainAll cs.toList
  | v => plain1 v
def plainV : Value → Bool
  | .iface _ v => plain2 v
  | v => plain2 v

abbrev AEnv := Tr Value
def ev (env : AEnv) : Operand → Option Value
  | .tmp t => env.get t
  | .const v => if plainV v then some v else none
  | .func f => some (.func (.func f) #[] #[])
  | .global _ => none
def evs (env : AEnv) : List Operand → Option (List Value)
  | [] => some []
  | x :: l => match ev env x with
    | none => none
    | some v => match evs env l with
      | none => none
      | some vs => some (v :: vs)

/-- what is put off: a call; or the mark of a range over a function (col: its block) -/
structure ADef where
  f : FuncId
  args : List Value
  cap : List Value
  col : Option Nat
inductive Out where
  | val (v : Value)
  | skip
  | call (f : Fn) (args : List Value)
  | panic (v : Value)
  | defer (d : ADef)

def listEq : List UInt8 → List UInt8 → Bool
  | [], [] => true
  | a :: x, b :: y => Nat.beq a.toNat b.toNat && listEq x y
  | _, _ => false
def listLt : List UInt8 → List UInt8 → Bool
  | _, [] => false
  | [], _ :: _ => true
  | a :: x, b :: y => Nat.blt a.toNat b.toNat || (Nat.beq a.toNat b.toNat && listLt x y)

def isAgg (d : TypeDesc) : Bool := match d with | .struct _ | .array _ _ => true | _ => false
def mkAgg (d : TypeDesc) (l : List Value) : Option Value := if isAgg d then some (.agg ⟨l⟩) else match l with | [v] => some v | _ => none
def cellsL : Value → List Value
  | .agg cs => cs.toList
  | v => [v]
def allOne : List Value → Bool
  | [] => true
  | v :: l => one v && allOne l

/-! memory -/
def aload (T : Tab) (t : TypeId) (a : Value) (H : AHeap) : Option Value :=
  match a, T.get t with
  | .pointer (some ⟨b, o, none⟩), some r => match H.get b with
    | some (.cells n tr _ _) => if isAgg r.und then (if o + r.size ≤ n then (match tr.row o r.size with | some l => some (.agg ⟨l⟩) | none => none) else none) else if o < n then tr.get o else none
    | _ => none
  | _, _ => none
def astore (T : Tab) (t : TypeId) (a x : Value) (H : AHeap) : Option AHeap :=
  match a, T.get t with
  | .pointer (some ⟨b, o, none⟩), some r => match H.get b with
    | some (.cells n tr e g) =>
      let l := cellsL x
      if l.length == r.size && decide (o + l.length ≤ n) && allOne l then some (H.put b (some (.cells n (tr.putAll o l) e g))) else none
    | _ => none
  | _, _ => none
def anew (e : TypeId) (l : List Value) (id : Nat) (H : AHeap) : Option AHeap :=
  if allOne l then some (H.put id (some (.cells l.length (Tr.emp.putAll 0 l) e none))) else none

/-! arithmetic -/
def aint (op : BinOp) (k : IntKind) (x y : Int) : Option Value :=
  match op with
  | .add => some (.int k (k.wrap (x + y)))
  | .sub => some (.int k (k.wrap (x - y)))
  | .mul => some (.int k (k.wrap (x * y)))
  | .quo => if y = 0 then none else some (.int k (k.wrap (x.tdiv y)))
  | .rem => if y = 0 then none else some (.int k (x.tmod y))
  | .and => some (.int k (k.wrap (BitVec.ofInt k.bits x &&& BitVec.ofInt k.bits y).toNat))
  | .or => some (.int k (k.wrap (BitVec.ofInt k.bits x ||| BitVec.ofInt k.bits y).toNat))
  | .xor => some (.int k (k.wrap (BitVec.ofInt k.bits x ^^^ BitVec.ofInt k.bits y).toNat))
  | .andNot => some (.int k (k.wrap (BitVec.ofInt k.bits x &&& ~~~(BitVec.ofInt k.bits y)).toNat))
  | .eql => some (.bool (x == y))
  | .neq => some (.bool (x != y))
  | .lss => some (.bool (x < y))
  | .leq => some (.bool (x ≤ y))
  | .gtr => some (.bool (x > y))
  | .geq => some (.bool (x ≥ y))
  | _ => none
def ashift (op : BinOp) (k : IntKind) (x y : Int) : Option Value :=
  if y < 0 then none else
  match op with
  | .shl => some (.int k (k.wrap (x * 2 ^ (min y.toNat k.bits))))
  | .shr => some (.int k (x.fdiv (2 ^ (min y.toNat k.bits))))
  | _ => none
def astr (op : BinOp) (x y : ByteArray) : Option Value :=
  match op with
  | .add => if x.size + y.size ≤ 9223372036854775807 then some (.string ⟨⟨x.data.toList ++ y.data.toList⟩⟩) else none
  | .eql => some (.bool (listEq x.data.toList y.data.toList))
  | .neq => some (.bool (!listEq x.data.toList y.data.toList))
  | .lss => some (.bool (listLt x.data.toList y.data.toList))
  | .leq => some (.bool (listLt x.data.toList y.data.toList || listEq x.data.toList y.data.toList))
  | .gtr => some (.bool (!(listLt x.data.toList y.data.toList || listEq x.data.toList y.data.toList)))
  | .geq => some (.bool (!listLt x.data.toList y.data.toList))
  | _ => none
/-- equality of two values of a type: those without addresses, or against nil -/
def aeqFields (T : Tab) (rec : TypeId → Value → Value → Option Bool) : List Field → List Value → List Value → Option Bool
  | [], _, _ => some true
  | f :: fs, xs, ys => match T.get f.type with
    | none => none
    | some r =>
      match mkAgg r.und ((xs.drop f.offset).take r.size), mkAgg r.und ((ys.drop f.offset).take r.size) with
      | some a, some b => match rec f.type a b with
        | some true => aeqFields T rec fs xs ys
        | some false => some false
        | none => none
      | _, _ => none
def aeqCells (T : Tab) : Nat → TypeId → Value → Value → Option Bool
  | 0, _, _, _ => none
  | d + 1, t, x, y => match T.get t with
    | none => none
    | some r => match r.und, x, y with
      | .bool, .bool a, .bool b => some (a == b)
      | .int _, .int k a, .int k' b => if k = k' then some (a == b) else none
      | .string, .string a, .string b => some (listEq a.data.toList b.data.toList)
      | .pointer _, .pointer none, .pointer b => some b.isNone
      | .pointer _, .pointer (some _), .pointer none => some false
      | .slice _, .slice none _ _, .slice b _ _ => some b.isNone
      | .slice _, .slice (some _) _ _, .slice none _ _ => some false
      | .map _ _, .map none, .map b => some b.isNone
      | .map _ _, .map (some _), .map none => some false
      | .func _ _ _, .nilFunc, .nilFunc => some true
      | .func _ _ _, .nilFunc, .func _ _ _ => some false
      | .func _ _ _, .func _ _ _, .nilFunc => some false
      | .interface ms, .nilIface, .nilIface => if ms.isEmpty then some true else none
      | .interface _, .nilIface, .iface _ _ => some false
      | .interface _, .iface _ _, .nilIface => some false
      | .struct fs, .agg xs, .agg ys => if r.eq then aeqFields T (aeqCells T d) fs.toList xs.toList ys.toList else none
      | _, _, _ => none
def abin (T : Tab) (op : BinOp) (t : TypeId) (x y : Value) : Option Value :=
  match x, y with
  | .int k a, .int k' b => match op with
    | .shl | .shr => ashift op k a b
    | _ => if k = k' then aint op k a b else none
  | .string a, .string b => astr op a b
  | x, y => match op with
    | .eql => (aeqCells T 20 t x y).map .bool
    | .neq => (aeqCells T 20 t x y).map fun b => .bool (!b)
    | _ => none
/-- an interface against the literal nil, too -/
def isConst : Operand → Bool
  | .const _ => true
  | _ => false
def abinG (T : Tab) (op : BinOp) (t : TypeId) (c : Bool) (x y : Value) : Option Value :=
  match x, y, c with
  | .nilIface, .nilIface, true => match T.get t with
    | some r => match r.und, op with
      | .interface _, .eql => some (.bool true)
      | .interface _, .neq => some (.bool false)
      | _, _ => none
    | none => none
  | x, y, _ => abin T op t x y
def aun (op : UnOp) (x : Value) : Option Value :=
  match op, x with
  | .neg, .int k n => some (.int k (k.wrap (0 - n)))
  | .xor, .int k n => some (.int k (k.wrap (BitVec.ofInt k.bits (if k.signed then -1 else k.max) ^^^ BitVec.ofInt k.bits n).toNat))
  | .not, .bool b => some (.bool !b)
  | _, _ => none
def bytesOfCells : List Value → Option (List UInt8)
  | [] => some []
  | .int .u8 n :: l => match bytesOfCells l with
    | some bs => some (UInt8.ofNat n.toNat :: bs)
    | none => none
  | _ => none

def bnd (y : Nat) : Option Value → Nat → Option Nat
  | none, d => some d
  | some (.int _ i), _ => if 0 ≤ i ∧ i ≤ y then some i.toNat else none
  | _, _ => none
def aslice (T : Tab) (t : TypeId) (x : Value) (lo hi mx : Option Value) (H : AHeap) : Option Value :=
  if mx.isSome && hi.isNone then none else
  match T.get t with
  | none => none
  | some r => match r.und, x with
    | .string, .string s => if mx.isSome then none else
      match bnd s.size hi s.size with
      | none => none
      | some h => match bnd h lo 0 with
        | none => none
        | some l => some (.string ⟨⟨(s.data.toList.take h).drop l⟩⟩)
    | .slice e, .slice a n c => match T.get e with
      | none => none
      | some re => match a with
        | none => match bnd c mx c with
          | none => none
          | some m => match bnd m hi n with
            | none => none
            | some h => match bnd h lo 0 with
              | none => none
              | some l => some (.slice none (h - l) (m - l))
        | some ⟨b, o, none⟩ => match H.get b with
          | some (.cells _ _ _ none) => match bnd c mx c with
            | none => none
            | some m => match bnd m hi n with
              | none => none
              | some h => match bnd h lo 0 with
                | none => none
                | some l => some (.slice (some ⟨b, if m == l then o else o + l * re.size, none⟩) (h - l) (m - l))
          | some (.cells _ _ _ (some sz)) =>   -- how much it may grow isn't known
            if mx.isSome || sz != re.size then none else
            match bnd n hi n with
            | none => none
            | some h => match bnd h lo 0 with
              | none => none
              | some l => some (.slice (some ⟨b, o + l * re.size, none⟩) (h - l) (c - l))
          | _ => none
        | _ => none
    | .array n e, .pointer (some ⟨b, o, none⟩) => match T.get e with
      | none => none
      | some re => match H.get b with
        | some (.cells _ _ _ none) =>
          if mx.isSome then none else
          match bnd n hi n with
          | none => none
          | some h => match bnd h lo 0 with
            | none => none
            | some l => some (.slice (some ⟨b, if n == l then o else o + l * re.size, none⟩) (h - l) (n - l))
        | _ => none
    | _, _ => none

def keyEq : Value → Value → Option Bool
  | .int k a, .int k' b => if k = k' then some (a == b) else none
  | .string a, .string b => some (listEq a.data.toList b.data.toList)
  | .bool a, .bool b => some (a == b)
  | _, _ => none
def keyDesc : TypeDesc → Bool
  | .int _ | .string | .bool => true
  | _ => false
def keyFits : TypeDesc → Value → Bool
  | .int _, .int _ _ | .string, .string _ | .bool, .bool _ => true
  | _, _ => false
def afind (k : Value) : List (Value × Value) → Option (Option Value)
  | [] => some none
  | (a, b) :: l => match keyEq k a with
    | none => none
    | some true => some (some b)
    | some false => afind k l
def aupd (k v : Value) : List (Value × Value) → List (Value × Value)
  | [] => [(k, v)]
  | (a, b) :: l => match keyEq k a with
    | some true => (k, v) :: l
    | _ => (a, b) :: aupd k v l
def adel (k : Value) : List (Value × Value) → List (Value × Value)
  | [] => []
  | (a, b) :: l => match keyEq k a with
    | some true => l
    | _ => (a, b) :: adel k l

def adelB (k : Value) : List (Value × Value) → List Nat → List Nat
  | (a, _) :: l, n :: ns => match keyEq k a with
    | some true => ns
    | _ => n :: adelB k l ns
  | _, ns => ns
/-- the cells of a slice's first n elements (size cells each) -/
def sliceCells (size n : Nat) (x : Value) (H : AHeap) : Option (List Value) :=
  match x with
  | .slice none _ _ => some []
  | .slice (some ⟨b, o, none⟩) _ _ => match H.get b with
    | some (.cells m tr _ _) => if o + n * size ≤ m then tr.row o (n * size) else if n * size == 0 then some [] else none
    | _ => none
  | .string s => some ((s.data.toList.take n).map fun c => .int .u8 c.toNat)
  | _ => none
def lenV : Value → Option Nat
  | .slice _ n _ => some n
  | .string s => some s.size
  | _ => none
def repCells : Nat → List Value → List Value
  | 0, _ => []
  | n + 1, z => z ++ repCells n z
/-- all the same number -/
def sameInt (k : IntKind) (n : Int) : List Value → Bool
  | [] => true
  | .int k' n' :: l => decide (k' = k) && decide (n' = n) && sameInt k n l
  | _ => false
def zeroTree (m : Nat) (l : List Value) : Tr Value :=
  match l with
  | .int k n :: r => match sameInt k n r && Nat.ble (m * (r.length + 1)) 65536 with
    | true => Tr.fill (.int k n)
    | false => Tr.emp.putAll 0 (repCells m l)
  | _ => Tr.emp.putAll 0 (repCells m l)
def notGrown (H : AHeap) : Option Addr → Bool
  | none => true
  | some ⟨b', _, none⟩ => match H.get b' with
    | some (.cells _ _ _ none) => true
    | _ => false
  | _ => false
/-- a row appended to nothing: its tree stays -/
def aclone (T : Tab) (t : TypeId) (s x : Value) (id : Nat) (H : AHeap) : Option (Value × AHeap) :=
  match T.get t with
  | none => none
  | some r => match r.und, s, x with
    | .slice e, .slice a 0 c, .slice (some ⟨b, 0, none⟩) k _ => match T.get e, H.get b with
      | some re, some (.cells kk tr _ _) =>
        if Nat.ble (k * re.size) kk && Nat.blt c k && re.zero.isSome && !(re.bytes == 0) && decide (k * re.bytes ≤ 1099511627776) &&
          notGrown H a then
          some (.slice (some ⟨id, 0, none⟩) k k, H.put id (some (.cells (k * re.size) tr e (some re.size)))) else none
      | _, _ => none
    | _, _, _ => none
def aappend (T : Tab) (t : TypeId) (s x : Value) (id : Nat) (H : AHeap) : Option (Value × AHeap) :=
  match T.get t with
  | none => none
  | some r => match r.und, s, lenV x with
    | .slice e, .slice a n c, some m => match T.get e with
      | none => none
      | some re => match sliceCells re.size m x H with
        | none => none
        | some new =>
          if new.length != m * re.size || !allOne new || re.zero.isNone || re.bytes == 0 || decide (1099511627776 < (n + m) * re.bytes) then none else
          if n + m ≤ c then
            match a with
            | none => some (.slice none (n + m) c, H)
            | some ⟨b, o, none⟩ => match H.get b with
              | some (.cells k tr e' g) =>
                if o + n * re.size + new.length ≤ k then some (.slice a (n + m) c, H.put b (some (.cells k (tr.putAll (o + n * re.size) new) e' g)))
                else if new.length == 0 then some (.slice a (n + m) c, H) else none
              | _ => none
            | _ => none
          else
            match sliceCells re.size n s H with
            | none => none
            | some old =>
              if old.length != n * re.size then none else
              let H1 := H.put id (some (.cells ((n + m) * re.size) (Tr.emp.putAll 0 (old ++ new)) e (some re.size)))
              let v := Value.slice (some ⟨id, 0, none⟩) (n + m) (n + m)
              match a with
              | none => some (v, H1)
              | some ⟨b, _, _⟩ => match H.get b with
                | some (.cells _ _ e0 (some sz)) => if sz == re.size && Nat.beq e0 e then some (v, H1.put b none) else none
                | some (.cells _ _ _ none) => some (v, H1)
                | _ => none
    | _, _, _ => none
end
end Go.Proofs.YtkgmpkoamicheaaGreatDoor.M
