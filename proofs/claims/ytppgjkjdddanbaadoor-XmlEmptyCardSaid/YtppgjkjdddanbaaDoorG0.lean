/- The parser as a plain function over bytes: what a byte changes and tells. No program in it. -/
import Derived.Test.YtppgjkjdddanbaaDoorF9
import Derived.Test.YtppgjkjdddanbaaDoorF3
namespace Go.Proofs.YtppgjkjdddanbaaDoor
open Go.RowKit
open Hb

structure Tok where
  kind : Nat
  name : ByteArray
  attrs : List (ByteArray × ByteArray)
  text : ByteArray

structure PS where
  wait : List UInt8
  quote : UInt8
  opn : List ByteArray
  rooted : Bool
  begun : Bool
  broken : Nat

def ps0 : PS := ⟨[], 0, [], false, false, 0⟩

/-- xml.chars -/
def charsP (o : List ByteArray) (s : ByteArray) : Option (List Tok) :=
  if chars s.data.toList = true then
    match unesc (s.size + 1) s.data.toList with
    | none => none
    | some t => match o with
      | [] => if space s.data.toList = true then some [] else none
      | _ :: _ => match t with
        | [] => some []
        | b :: t' => some [⟨3, ⟨#[]⟩, [], ⟨(b :: t').toArray⟩⟩]
  else none

/-- what stands behind the quote of an attribute's text. -/
def attrV (x r3 : ByteArray) (q : UInt8) : Option ((ByteArray × ByteArray) × ByteArray) :=
  let r4 := r3.extract 1 r3.size
  let u := cutAt q r4.data.toList
  if u.2.2 = true then
    match unesc (u.1.length + 1) u.1 with
    | none => none
    | some t => some ((x, ⟨t.toArray⟩), ⟨u.2.1.toArray⟩)
  else none

def cutLead (r : ByteArray) : ByteArray := r.extract (lead r.data.toList) r.size

def attrT (x r0 : ByteArray) : Option ((ByteArray × ByteArray) × ByteArray) :=
  let r1 := cutLead r0
  if preB r1 ⟨#[61]⟩ = true then
    let r3 := cutLead (r1.extract 1 r1.size)
    if preB r3 ⟨#[39]⟩ = true then attrV x r3 39
    else if preB r3 ⟨#[34]⟩ = true then attrV x r3 34
    else none
  else none

/-- xml.attribute -/
def attrP (s : ByteArray) : Option ((ByteArray × ByteArray) × ByteArray) :=
  if nameOk s = true then attrT (s.extract 0 (nameLen s.data.toList)) (s.extract (nameLen s.data.toList) s.size) else none

/-- the attributes of a tag -/
def attrsP : Nat → ByteArray → Option (List (ByteArray × ByteArray))
  | 0, _ => none
  | n + 1, r =>
    if lead r.data.toList = r.size then some []
    else if lead r.data.toList = 0 then none
    else match attrP (r.extract (lead r.data.toList) r.size) with
      | none => none
      | some (a, r') => match attrsP n r' with
        | none => none
        | some l => some (a :: l)

def attrsR (r : ByteArray) : Option (List (ByteArray × ByteArray)) := attrsP (r.size + 1) r

/-- is a name there twice? -/
def twice : List (ByteArray × ByteArray) → List (ByteArray × ByteArray) → Bool
  | _, [] => false
  | seen, a :: l => seen.any (fun b => b.1.toList == a.1.toList) || twice (seen ++ [a]) l

/-- xml.begin, behind its name and attributes -/
def beginT (p : PS) (x : ByteArray) (attrs : List (ByteArray × ByteArray)) (empty : Bool) : Except Nat (PS × List Tok) :=
  if p.opn = [] ∧ p.rooted = true then .error 6
  else if 8 < attrs.length then .error 5
  else if twice [] attrs = true then .error 6
  else if 8 ≤ p.opn.length then .error 5
  else if empty = true then .ok ({ p with rooted := true }, [⟨1, x, attrs, ⟨#[]⟩⟩, ⟨2, x, [], ⟨#[]⟩⟩])
  else .ok ({ p with rooted := true, opn := p.opn ++ [x] }, [⟨1, x, attrs, ⟨#[]⟩⟩])

def beginO (p : PS) (x : ByteArray) (empty : Bool) : Option (List (ByteArray × ByteArray)) → Except Nat (PS × List Tok)
  | none => .error 6
  | some l => beginT p x l empty

def beginP (p : PS) (s : ByteArray) : Except Nat (PS × List Tok) :=
  let i := (cutSuf s ⟨#[47]⟩).1
  if nameOk i = true then
    beginO p (i.extract 0 (nameLen i.data.toList)) (cutSuf s ⟨#[47]⟩).2 (attrsR (i.extract (nameLen i.data.toList) i.size))
  else .error 6

/-- an End -/
def endP (p : PS) (a : ByteArray) : Except Nat (PS × List Tok) :=
  if nameOk a = true ∧ space (a.extract (nameLen a.data.toList) a.size).data.toList = true ∧ p.opn.getLast? = some (a.extract 0 (nameLen a.data.toList)) then
    .ok ({ p with opn := p.opn.dropLast }, [⟨2, a.extract 0 (nameLen a.data.toList), [], ⟨#[]⟩⟩])
  else .error 6

def declB (p : PS) (i : ByteArray) : Bool :=
  (cutPre i ⟨#[63, 120, 109, 108]⟩).2 && !p.begun && decide (0 < lead (cutPre i ⟨#[63, 120, 109, 108]⟩).1.data.toList) && sufB (cutPre i ⟨#[63, 120, 109, 108]⟩).1 ⟨#[63]⟩

/-- xml.tag -/
def tagP (p : PS) (s : ByteArray) : Except Nat (PS × List Tok) :=
  let i := s.extract 1 (s.size - 1)
  if chars s.data.toList = true then
    if declB p i = true then .ok (p, [])
    else if preB i ⟨#[33]⟩ = true ∨ preB i ⟨#[63]⟩ = true then .error 7
    else if (cutPre i ⟨#[47]⟩).2 = true then endP p (cutPre i ⟨#[47]⟩).1
    else beginP p i
  else .error 6

/-- xml.take, behind the text that ended -/
def takeT (p : PS) (c : UInt8) : PS × List Tok × Nat :=
  let wt := p.wait ++ [c]
  if wt.head? ≠ some 60 then ({ p with wait := wt }, [], if wt.length ≤ 512 then 0 else 5)
  else if 2048 < wt.length then ({ p with wait := wt }, [], 5)
  else if p.quote = c then ({ p with wait := wt, quote := 0 }, [], 0)
  else if p.quote ≠ 0 then ({ p with wait := wt }, [], 0)
  else if c = 39 ∨ c = 34 then ({ p with wait := wt, quote := c }, [], 0)
  else if c = 62 then
    match tagP { p with wait := [] } ⟨wt.toArray⟩ with
    | .error k => ({ p with wait := [] }, [], k)
    | .ok (p', l) => ({ p' with begun := true }, l, 0)
  else ({ p with wait := wt }, [], 0)

/-- does a text end here? -/
def endsText (p : PS) (c : UInt8) : Bool := c == 60 && p.wait.head?.any (fun b => b != 60)

/-- xml.take -/
def takeP (p : PS) (c : UInt8) : PS × List Tok × Nat :=
  if endsText p c = true then
    match charsP p.opn ⟨p.wait.toArray⟩ with
    | none => ({ p with wait := [] }, [], 6)
    | some l => let r := takeT { p with wait := [], begun := true } c; (r.1, l ++ r.2.1, r.2.2)
  else takeT p c

/-- the loop of xml.Feed -/
def runP (p : PS) : List UInt8 → PS × List Tok × Nat
  | [] => (p, [], 0)
  | c :: b => let r := takeP p c
    if r.2.2 = 0 then (let q := runP r.1 b; (q.1, r.2.1 ++ q.2.1, q.2.2)) else ({ r.1 with broken := r.2.2 }, r.2.1, r.2.2)

/-- xml.Feed -/
def feedP (p : PS) (b : List UInt8) : PS × List Tok × Nat := if p.broken ≠ 0 then (p, [], p.broken) else runP p b

/-! what stands in memory -/

/-- attributes in memory -/
def AttrRow (w : World) (va : Value) (l : List (ByteArray × ByteArray)) : Prop := w.ownsRow 0 53 2 va l.length (l.flatMap fun p => [.string p.1, .string p.2])

def TokCells (w : World) : List Tok → List Value → Prop
  | [], cs => cs = []
  | t :: ts, cs => ∃ va rest, cs = .int .u8 t.kind :: .string t.name :: va :: .string t.text :: rest ∧ AttrRow w va t.attrs ∧ TokCells w ts rest

theorem tokCells_len {w : World} : ∀ {ts : List Tok} {cs : List Value}, TokCells w ts cs → cs.length = ts.length * 4
  | [], _, h => by cases h; rfl
  | t :: ts, _, ⟨va, rest, rfl, _, h⟩ => by have := tokCells_len h; simp [this]; omega

theorem tokCells_add {w : World} {t : Tok} {va : Value} (hv : AttrRow w va t.attrs) : ∀ {ts : List Tok} {cs : List Value}, TokCells w ts cs → TokCells w (ts ++ [t]) (cs ++ [.int .u8 t.kind, .string t.name, va, .string t.text])
  | [], _, h => by cases h; exact ⟨va, [], rfl, hv, rfl⟩
  | u :: ts, _, ⟨ua, rest, rfl, hu, h⟩ => ⟨ua, _, rfl, hu, tokCells_add hv h⟩

/-- block k holds cells of type T -/
def Tg (w : World) (T : TypeId) (k : Nat) : Prop := ∃ cs, w.heap[k]? = some (.cells cs T (0, 0))
theorem Tg.ne {w : World} {T U : TypeId} {k : Nat} (h : Tg w T k) (h' : Tg w U k) : T = U := by
  obtain ⟨cs, h⟩ := h
  obtain ⟨ds, h'⟩ := h'
  rw [h] at h'
  simp at h'
  exact h'.2
theorem own_tag {w : World} {base n k : Nat} {e : TypeId} {v : Value} {xs : List Value} (h : w.ownsRow base e k v n xs) (g : Nat) (hg : some g = v.ownBlock) : Tg w e g := by
  rcases h.2 with ⟨rfl, _⟩ | ⟨g', cap, cur, rfl, _, h3, _⟩
  · cases hg
  · obtain rfl : g = g' := by simpa [Value.ownBlock] using hg
    exact ⟨cur, h3⟩
theorem Box.tag {w : World} {A : Nat} {T : TypeId} {cs : Array Value} (h : Box w A T cs) : Tg w T A := ⟨cs, h⟩
theorem own_only {S : Nat → Prop} {w w' : World} {base n k : Nat} {e : TypeId} {v : Value} {xs : List Value} (h : w.ownsRow base e k v n xs) (ho : Only S w w') (hn : ∀ g, some g = v.ownBlock → ¬ S g) : w'.ownsRow base e k v n xs := by
  refine ⟨h.1, ?_⟩
  rcases h.2 with h0 | ⟨g, cap, cur, e1, e2, e3, e4⟩
  · exact .inl h0
  · exact .inr ⟨g, cap, cur, e1, e2, (ho.block g (by rw [Array.getElem?_eq_some_iff] at e3; exact e3.1) (hn g (by rw [e1]; rfl))).trans e3, e4⟩
theorem tokCells_only {S : Nat → Prop} {w w' : World} (ho : Only S w w') (hn : ∀ k, S k → ¬ Tg w 53 k) : ∀ {ts : List Tok} {cs : List Value}, TokCells w ts cs → TokCells w' ts cs
  | [], _, h => h
  | _ :: _, _, ⟨va, rest, e, ha, h⟩ => ⟨va, rest, e, own_only ha ho (fun g hg hs => hn g hs (own_tag ha g hg)), tokCells_only ho hn h⟩
theorem own_mono {w : World} {base base' n k : Nat} {e : TypeId} {v : Value} {xs : List Value} (h : w.ownsRow base e k v n xs) (hb : base' ≤ base) : w.ownsRow base' e k v n xs := by
  refine ⟨h.1, ?_⟩
  rcases h.2 with h0 | ⟨g, cap, cur, e1, e2, e3, e4⟩
  · exact .inl h0
  · exact .inr ⟨g, cap, cur, e1, Nat.le_trans hb e2, e3, e4⟩

/-- the parser, and what a Feed told so far -/
structure Inv (w : World) (base bt A C : Nat) (p : PS) (ts : List Tok) (vw vo vout : Value) (cells : List Value) : Prop where
  box : Box w A 47 #[vw, .int .u8 p.quote.toNat, vo, .bool p.rooted, .bool p.begun, .int .i64 p.broken]
  wait : OwnB w base 5 vw p.wait
  opn : w.ownsRow 0 9 1 vo p.opn.length (p.opn.map Value.string)
  cbox : Box w C 25 #[vout]
  out : w.ownsRow bt 34 4 vout ts.length cells
  toks : TokCells w ts cells
  hC : bt ≤ C

theorem Inv.below {w w' : World} {base bt A C : Nat} {p : PS} {ts : List Tok} {vw vo vout : Value} {cells : List Value} (h : Inv w base bt A C p ts vw vo vout cells) (hb : Below w.heap.size w w') : Inv w' base bt A C p ts vw vo vout cells :=
  ⟨(hb.block A h.box.lt).trans h.box, h.wait.below hb, row_below h.opn hb, (hb.block C h.cbox.lt).trans h.cbox, row_below h.out hb, tokCells_only (Below.only hb (fun _ => False)) (fun _ h => h.elim) h.toks, h.hC⟩
end Go.Proofs.YtppgjkjdddanbaaDoor
