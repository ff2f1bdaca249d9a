/- xml's Feed, as the plain function tells it. -/
import Derived.Test.YtppgjkjdddanbaaDoorG9
import Derived.Test.YtppgjkjdddanbaaDoorG10
namespace Go.Proofs.YtppgjkjdddanbaaDoor
open Go.RowKit
open Hb

/-- the parser between two Feeds -/
structure Par (w : World) (base A : Nat) (p : PS) (vw vo : Value) : Prop where
  box : Box w A 47 #[vw, .int .u8 p.quote.toNat, vo, .bool p.rooted, .bool p.begun, .int .i64 p.broken]
  wait : OwnB w base 5 vw p.wait
  opn : w.ownsRow 0 9 1 vo p.opn.length (p.opn.map Value.string)

theorem Par.below {w w' : World} {base A : Nat} {p : PS} {vw vo : Value} (h : Par w base A p vw vo) (hb : Below w.heap.size w w') : Par w' base A p vw vo :=
  ⟨(hb.block A h.box.lt).trans h.box, h.wait.below hb, row_below h.opn hb⟩
theorem Inv.par {w : World} {base bt A C : Nat} {p : PS} {ts : List Tok} {vw vo vout : Value} {cells : List Value} (h : Inv w base bt A C p ts vw vo vout cells) : Par w base A p vw vo := ⟨h.box, h.wait, h.opn⟩

/-- bytes that a Feed is given. -/
def BytesAt (w : World) (base A : Nat) (vb : Value) (l : List UInt8) : Prop := ∃ a cap, vb = .slice a l.length cap ∧ (l = [] ∨ ∃ g off, a = some ⟨g, off, none⟩ ∧ g < base ∧ g ≠ A ∧ ∀ i (h : i < l.length), w.cell? ⟨g, off + i, none⟩ = some (.int .u8 l[i].toNat))

/-- what holds ahead of round k of Feed's loop. -/
def AtK (w : World) (base A : Nat) (p : PS) (l : List UInt8) (k : Nat) (W : World) : Prop := ∃ (b0 : Nat) (pk : PS) (tk : List Tok) (vw vo vout : Value) (cells : List Value),
  (b0 = base ∨ ∃ c t, l.drop k = c :: t ∧ endsText pk c = true) ∧ Inv W b0 w.heap.size A (w.heap.size + 1) pk tk vw vo vout cells ∧ runP p l = ((runP pk (l.drop k)).1, tk ++ (runP pk (l.drop k)).2.1, (runP pk (l.drop k)).2.2) ∧ Fit8 pk ∧ tk.length ≤ 3 * k ∧ Fr A base w.heap.size w W ∧
  Box W w.heap.size 23 #[pt A] ∧ Box W (w.heap.size + 1 + 1) 26 #[.int .i64 0]

theorem AtK.start {w : World} {base0 base A : Nat} {p : PS} {l : List UInt8} {vw vo : Value} (h : Par w base0 A p vw vo) (hbs : base0 = base ∨ ∃ c t, l = c :: t ∧ endsText p c = true) (hf : Fit8 p) :
    AtK w base A p l 0 (((w.alloc (.cells #[pt A] 23)).alloc (.cells #[.slice none 0 0] 25)).alloc (.cells #[.int .i64 0] 26)) := by
  have b1 := (Below.refl w.heap.size w).alloc (Nat.le_refl _) (.cells #[pt A] 23)
  have b2 := b1.alloc b1.size (.cells #[.slice none 0 0] 25)
  have b3 := b2.alloc b2.size (.cells #[.int .i64 0] 26)
  have s1 : (w.alloc (.cells #[pt A] 23)).heap.size = w.heap.size + 1 := World.size_alloc _ _
  have s2 : ((w.alloc (.cells #[pt A] 23)).alloc (.cells #[.slice none 0 0] 25)).heap.size = w.heap.size + 1 + 1 := by rw [World.size_alloc, s1]
  have hp := h.below b3
  have x1 : Box (w.alloc (.cells #[pt A] 23)) w.heap.size 23 #[pt A] := (MapKept.heap_alloc w _).1
  have x2 : Box ((w.alloc (.cells #[pt A] 23)).alloc (.cells #[.slice none 0 0] 25)) (w.heap.size + 1) 25 #[.slice none 0 0] := by
    have := (MapKept.heap_alloc (w.alloc (.cells #[pt A] 23)) (.cells #[.slice none 0 0] 25)).1
    rw [s1] at this
    exact this
  have x3 : Box (((w.alloc (.cells #[pt A] 23)).alloc (.cells #[.slice none 0 0] 25)).alloc (.cells #[.int .i64 0] 26)) (w.heap.size + 1 + 1) 26 #[.int .i64 0] := by
    have := (MapKept.heap_alloc ((w.alloc (.cells #[pt A] 23)).alloc (.cells #[.slice none 0 0] 25)) (.cells #[.int .i64 0] 26)).1
    rw [s2] at this
    exact this
  have u1 : ∀ (W : World) (o : Obj) (k : Nat) (T : TypeId) (cs : Array Value), Box W k T cs → Box (W.alloc o) k T cs := fun W o k T cs hb => (Below.heap_alloc W o k hb.lt).trans hb
  refine ⟨base0, p, [], vw, vo, .slice none 0 0, [], hbs, ⟨hp.box, hp.wait, hp.opn, u1 _ _ _ _ _ x2, World.ownsRow_nil _ _ _ _, rfl, by omega⟩, by simp, hf, by simp, Fr.below b3, u1 _ _ _ _ _ (u1 _ _ _ _ _ x1), x3⟩

theorem Fr.boxOf {A base bt k : Nat} {w w' : World} {T : TypeId} {cs : Array Value} (h : Fr A base bt w w') (hb : Box w k T cs) (hk : k ≠ A) (h1 : T ≠ 5) (h2 : T ≠ 25) (h3 : T ≠ 34) : Box w' k T cs :=
  Only.box h hb (fun hs => by
    rcases hs with hs | ⟨_, hs⟩ | ⟨_, hs | hs⟩
    · exact hk hs
    · exact h1 (hb.tag.ne hs)
    · exact h2 (hb.tag.ne hs)
    · exact h3 (hb.tag.ne hs))

theorem AtK.step {w W w' : World} {base A : Nat} {p pk : PS} {l : List UInt8} {tk : List Tok} {k : Nat} (hk : k < l.length) (hAl : A < w.heap.size)
    (hr : runP p l = ((runP pk (l.drop k)).1, tk ++ (runP pk (l.drop k)).2.1, (runP pk (l.drop k)).2.2)) (hf : Fit8 pk) (ht : tk.length ≤ 3 * k) (hF : Fr A base w.heap.size w W)
    (hB : Box W w.heap.size 23 #[pt A]) (hE : Box W (w.heap.size + 1 + 1) 26 #[.int .i64 0])
    (hz : (takeP pk l[k]).2.2 = 0) {vw' vo' vout' : Value} {cells' : List Value} (hI : Inv w' base w.heap.size A (w.heap.size + 1) (takeP pk l[k]).1 (tk ++ (takeP pk l[k]).2.1) vw' vo' vout' cells') (hF2 : Fr A base w.heap.size W w') :
    AtK w base A p l (k + 1) w' := by
  refine ⟨_, _, _, _, _, _, _, .inl rfl, hI, ?_, takeP_fit8 hf hz, ?_, hF.trans hF2, hF2.boxOf hB (by omega) (by decide) (by decide) (by decide), hF2.boxOf hE (by omega) (by decide) (by decide) (by decide)⟩
  · rw [hr, List.drop_eq_getElem_cons hk, runP_step hz]
    dsimp only
    rw [List.append_assoc]
  · have := (takeP_fit pk l[k] hf).2.2.1
    rw [List.length_append]
    omega

/-- what a Feed may change of what was there: the parser, and bytes that belong to it. -/
def FF (A base : Nat) (w w' : World) : Prop := Only (fun k => k = A ∨ (base ≤ k ∧ Tg w 5 k)) w w'
theorem FF.of {A base : Nat} {w w' : World} (h : Fr A base w.heap.size w w') : FF A base w w' :=
  ⟨h.os, h.tape, h.output, h.size, fun k hk hn => h.block k hk (fun hs => by
    rcases hs with hs | hs | ⟨hs, _⟩
    · exact hn (.inl hs)
    · exact hn (.inr hs)
    · omega)⟩
theorem FF.set {A base E i : Nat} {v : Value} {w w' : World} (h : FF A base w w') (hE : E = A ∨ w.heap.size ≤ E) : FF A base w (w'.setCell ⟨E, i, none⟩ v) :=
  Only.trans h (Only.set w' E i v) (fun k hk hs => by
    rcases hE with hE | hE
    · exact .inl (hs.trans hE)
    · exact absurd hs (by omega))
theorem FF.below {A base : Nat} {w w' w2 : World} (h : FF A base w w') (hb : Below w'.heap.size w' w2) : FF A base w w2 := Only.trans h (Below.only hb (fun _ => False)) (fun _ _ h => h.elim)

theorem Inv.setOther {w : World} {base bt A C E i : Nat} {v : Value} {T : TypeId} {p : PS} {ts : List Tok} {vw vo vout : Value} {cells : List Value} (h : Inv w base bt A C p ts vw vo vout cells) (hE : Tg w T E) (h1 : T ≠ 47) (h2 : T ≠ 5) (h3 : T ≠ 9) (h4 : T ≠ 25) (h5 : T ≠ 34) (h6 : T ≠ 53) :
    Inv (w.setCell ⟨E, i, none⟩ v) base bt A C p ts vw vo vout cells := by
  have ho := Only.set w E i v
  have hA : ∀ {U : TypeId} {k : Nat}, Tg w U k → T ≠ U → ¬ k = E := fun ht hn e => hn (by subst e; exact hE.ne ht)
  refine ⟨ho.box h.box (hA h.box.tag h1), ?_, ?_, ?_, ?_, ?_, h.hC⟩
  · exact own_only h.wait ho (fun g hg => hA (own_tag h.wait g hg) h2)
  · exact own_only h.opn ho (fun g hg => hA (own_tag h.opn g hg) h3)
  · exact ho.box h.cbox (hA h.cbox.tag h4)
  · exact own_only h.out ho (fun g hg => hA (own_tag h.out g hg) h5)
  · exact tokCells_only ho (fun k hk ht => hA ht h6 hk) h.toks

theorem Inv.setSame {w : World} {base bt A C : Nat} {p : PS} {ts : List Tok} {vw vo vout : Value} {cells : List Value} (h : Inv w base bt A C p ts vw vo vout cells) : Inv (w.setCell ⟨C, 0, none⟩ vout) base bt A C p ts vw vo vout cells := by
  have ho := Only.set w C 0 vout
  have hA : ∀ {U : TypeId} {k : Nat}, Tg w U k → 25 ≠ U → ¬ k = C := fun ht hn e => hn (by subst e; exact h.cbox.tag.ne ht)
  refine ⟨ho.box h.box (hA h.box.tag (by decide)), ?_, ?_, h.cbox.set 0 vout, ?_, ?_, h.hC⟩
  · exact own_only h.wait ho (fun g hg => hA (own_tag h.wait g hg) (by decide))
  · exact own_only h.opn ho (fun g hg => hA (own_tag h.opn g hg) (by decide))
  · exact own_only h.out ho (fun g hg => hA (own_tag h.out g hg) (by decide))
  · exact tokCells_only ho (fun k hk ht => hA ht (by decide) hk) h.toks

set_option maxRecDepth 100000 in
set_option maxHeartbeats 8000000 in
theorem feed_any (base0 base A : Nat) (p : PS) (l : List UInt8) (vw vo vb : Value) (w : World) (h : Par w base0 A p vw vo) (hbs : base0 = base ∨ ∃ c t, l = c :: t ∧ endsText p c = true) (hf : Fit8 p) (h0 : p.broken = 0) (hb : BytesAt w base A vb l) (hba : base ≤ w.heap.size) (hl : l.length ≤ 10000000) :
    Calls Tryd.prog 12 #[pt A, vb] w fun o w' => ∃ vw' vo' vout cells, o = .returned (.tuple #[vout, .int .i64 (runP p l).2.2]) ∧ Par w' base A (runP p l).1 vw' vo' ∧ w'.ownsRow w.heap.size 34 4 vout (runP p l).2.1.length cells ∧ TokCells w' (runP p l).2.1 cells ∧ FF A base w w' := by
  have x5 : w.cell? ⟨A, 5, none⟩ = some (.int .i64 0) := by
    have := h.box.cell 5
    rw [h0] at this
    exact this
  have HP := Lib.hid h
  obtain ⟨a, cap, rfl, hb⟩ := hb
  have HB := Lib.hid hb
  have hAl := h.box.lt
  have nA : ¬ w.heap.size = A := by omega
  have nA2 : ¬ A = w.heap.size := by omega
  clear h hb
  have b1 := (Below.refl w.heap.size w).alloc (Nat.le_refl _) (.cells #[pt A] 23)
  have b2 := b1.alloc b1.size (.cells #[.slice none 0 0] 25)
  have b3 := b2.alloc b2.size (.cells #[.int .i64 0] 26)
  have y5 := (b3.cell (p := ⟨A, 5, none⟩) hAl).trans x5
  have HST := Lib.hid (AtK.start HP.out hbs hf)
  clear hbs
  clear b1 b2 b3
  go_enter_defers Tryd.func12, Tryd.ntmps12
  go_wp2_with fail
  go_loopw [24] (fun iv W => ∃ k : Nat, k ≤ l.length ∧ iv = .int .i64 k ∧ Hid (AtK w base A p l k W)) (fun iv _ => l.length - (intOf iv).toNat)
  case atStart => exact ⟨0, Nat.zero_le _, rfl, HST.out⟩
  case round =>
    obtain ⟨k, hk, rfl, HK⟩ := hrel
    by_cases hlt : k < l.length
    · have ck : decide ((k : Int) < (l.length : Int)) = true := by simp; omega
      have hne : l ≠ [] := fun e => by rw [e] at hlt; cases hlt
      obtain ⟨g, off, ha, hgb, hgA, hcs⟩ := HB.out.resolve_left hne
      subst ha
      obtain ⟨b0, pk, tk, vwk, vok, voutk, cellsk, hb0, hI, hr, hfk, htk, hF, hBp, hE⟩ := HK.out
      have yc : wr.cell? ⟨g, off + k, none⟩ = some (.int .u8 l[k].toNat) := by
        rw [← hcs k hlt]
        refine World.cell?_of_block (w := w) (w' := wr) (a := ⟨g, off + k, none⟩) (hF.block g (by omega) ?_)
        rintro (hs | ⟨hs, _⟩ | ⟨hs, _⟩)
        · exact hgA hs
        · omega
        · omega
      have yp : wr.cell? ⟨w.heap.size, 0, none⟩ = some (pt A) := hBp.cell 0
      have hb1 : endsText pk l[k] = true ∨ b0 = base := by
        rcases hb0 with h | ⟨c, t, h1, h2⟩
        · exact .inr h
        · rw [List.drop_eq_getElem_cons hlt] at h1
          injection h1 with h1 _
          rw [← h1] at h2
          exact .inl h2
      have HTK := Lib.hid (take_any b0 base w.heap.size A (w.heap.size + 1) pk l[k] tk vwk vok voutk cellsk wr hI hb1 hF.size (Nat.le_trans hba hF.size) (by omega) hfk.wait hfk.opn)
      have HI := Lib.hid hI
      have HR := Lib.hid hr
      have HF := Lib.hid hF
      have HBP := Lib.hid hBp
      have HEE := Lib.hid hE
      have HFK := Lib.hid hfk
      have HTL := Lib.hid htk
      unfold tellV at HTK
      clear hI hr hF hBp hE hfk htk hcs hne hb0 hb1
      go_wp2_with fail
      go_at_call 22
      with_reducible refine HTK.out.mono ?_
      rintro e w' ⟨he, ⟨vw2, vo2, vout2, cells2, hI2⟩, hF2⟩
      have HI2 := Lib.hid hI2
      have HF2 := Lib.hid hF2
      clear hI2 hF2
      by_cases hz : (takeP pk l[k]).2.2 = 0
      · rw [if_pos hz] at he
        subst he
        have HST2 := Lib.hid (AtK.step hlt hAl HR.out HFK.out HTL.out HF.out HBP.out HEE.out hz HI2.out HF2.out)
        clear hz
        go_wp2_with fail
        go_roundw
        case rel => exact ⟨k + 1, by omega, by go_num, HST2.out⟩
        case measure => simp [intOf]; omega
      · rw [if_neg hz] at he
        subst he
        have hRS := HR.out
        rw [List.drop_eq_getElem_cons hlt, runP_stop hz] at hRS
        have HRS := Lib.hid hRS
        clear hRS
        generalize (takeP pk l[k]).2.2 = err at HRS
        have hE2 := HF2.out.boxOf HEE.out (by omega) (by decide) (by decide) (by decide)
        have hB2 := HF2.out.boxOf HBP.out (by omega) (by decide) (by decide) (by decide)
        have HE2 := Lib.hid hE2
        have HB2 := Lib.hid hB2
        have HFF := Lib.hid (FF.of (HF.out.trans HF2.out))
        clear hE2 hB2
        have hI3 := (HI2.out.setFlag (p' := { (takeP pk l[k]).1 with broken := err }) 5 (.int .i64 err) rfl rfl rfl).setOther (E := w.heap.size + 1 + 1) (i := 0) (v := .int .i64 err) (T := 26) ((Only.set w' A 5 (.int .i64 err)).box HE2.out (by omega)).tag (by decide) (by decide) (by decide) (by decide) (by decide) (by decide)
        have hb3 : Below ((w'.setCell ⟨A, 5, none⟩ (.int .i64 err)).setCell ⟨w.heap.size + 1 + 1, 0, none⟩ (.int .i64 err)).heap.size ((w'.setCell ⟨A, 5, none⟩ (.int .i64 err)).setCell ⟨w.heap.size + 1 + 1, 0, none⟩ (.int .i64 err)) (((w'.setCell ⟨A, 5, none⟩ (.int .i64 err)).setCell ⟨w.heap.size + 1 + 1, 0, none⟩ (.int .i64 err)).alloc (.cells #[.int .i64 err] 49)).drew := ((Below.refl _ _).alloc (Nat.le_refl _) _).drew
        have hI4 := hI3.below hb3
        have hE4 : Box (((w'.setCell ⟨A, 5, none⟩ (.int .i64 err)).setCell ⟨w.heap.size + 1 + 1, 0, none⟩ (.int .i64 err)).alloc (.cells #[.int .i64 err] 49)).drew (w.heap.size + 1 + 1) 26 #[.int .i64 err] := (hb3.block _ (((Only.set w' A 5 (.int .i64 err)).box HE2.out (by omega)).set 0 (.int .i64 err)).lt).trans (((Only.set w' A 5 (.int .i64 err)).box HE2.out (by omega)).set 0 (.int .i64 err))
        have HF4 := Lib.hid (((HFF.out.set (E := A) (i := 5) (v := .int .i64 err) (.inl rfl)).set (E := w.heap.size + 1 + 1) (i := 0) (v := .int .i64 err) (.inr (by omega))).below hb3)
        have HI4 := Lib.hid hI4
        have q0 : _ = some vout2 := hI4.cbox.cell 0
        have q1 : _ = some (Value.int .i64 err) := hE4.cell 0
        clear hI3 hb3 hI4 hE4
        unfold panic1
        go_wp2_with fail
        refine leaves_cons (f := 20) (args := #[pt w.heap.size, pt (w.heap.size + 1 + 1)]) (by simp) (by simp [go_sem]) ?_
        refine (catch_panics A w.heap.size (w.heap.size + 1 + 1) err _ _ _ _ _ _ _ [] w' HI2.out.box (HB2.out.cell 0) (HE2.out.cell 0) (HE2.out.f 0) (by omega)).mono ?_
        rintro e u' w'' ⟨rfl, rfl, rfl⟩
        refine ⟨.tuple #[vout2, .int .i64 err], ?_, vw2, vo2, vout2, cells2, ?_, ?_, ?_, ?_, HF4.out⟩
        · simp [results, Tryd.results12, go_sem]
          have q2 : (((w'.setCell ⟨A, 5, none⟩ (.int .i64 err)).setCell ⟨w.heap.size + 1 + 1, 0, none⟩ (.int .i64 err)).alloc (.cells #[.int .i64 err] 49)).cell? ⟨w.heap.size + 1, 0, none⟩ = some vout2 := q0
          rw [q2]
          dsimp only [Result.andThen]
          rw [q1]
        · rw [HRS.out]
        · rw [HRS.out]; exact HI4.out.par
        · rw [HRS.out]; exact HI4.out.out
        · rw [HRS.out]; exact HI4.out.toks
    · have hkl : k = l.length := by omega
      subst hkl
      have ck : decide ((l.length : Int) < (l.length : Int)) = false := by simp
      obtain ⟨b0, pk, tk, vwk, vok, voutk, cellsk, hb0, hI, hr, hfk, htk, hF, hBp, hE⟩ := HK.out
      have hbe : b0 = base := by
        rcases hb0 with h | ⟨c, t, h1, _⟩
        · exact h
        · rw [List.drop_length] at h1; cases h1
      subst hbe
      clear hb0
      rw [List.drop_length] at hr
      obtain ⟨so, co, rfl⟩ := row_slice hI.out
      have HI := Lib.hid hI
      have HR := Lib.hid hr
      have HF := Lib.hid hF
      have HEE := Lib.hid hE
      have c0 : wr.cell? ⟨w.heap.size + 1, 0, none⟩ = some (.slice so tk.length co) := hI.cbox.cell 0
      have c1 : wr.frozen? ⟨w.heap.size + 1, 0, none⟩ = false := hI.cbox.f 0
      have e0 : wr.cell? ⟨w.heap.size + 1 + 1, 0, none⟩ = some (.int .i64 0) := hE.cell 0
      have e1 : wr.frozen? ⟨w.heap.size + 1 + 1, 0, none⟩ = false := hE.f 0
      clear hI hr hF hBp hE hfk htk
      go_wp2_with fail
      have hI2 := HI.out.setSame.setOther (E := w.heap.size + 1 + 1) (i := 0) (v := .int .i64 0) (T := 26) ((Only.set wr (w.heap.size + 1) 0 (.slice so tk.length co)).box HEE.out (by omega)).tag (by decide) (by decide) (by decide) (by decide) (by decide) (by decide)
      have hE2 := ((Only.set wr (w.heap.size + 1) 0 (.slice so tk.length co)).box HEE.out (by omega)).set 0 (.int .i64 0)
      have q0 : _ = some (Value.slice so tk.length co) := hI2.cbox.cell 0
      have q1 : _ = some (Value.int .i64 0) := hE2.cell 0
      refine leaves_cons (f := 20) (args := #[pt w.heap.size, pt (w.heap.size + 1 + 1)]) (by simp) (by simp [go_sem]) ?_
      refine (catch_idle w.heap.size (w.heap.size + 1 + 1) _).mono ?_
      rintro e u' w'' ⟨rfl, rfl, rfl⟩
      have hRR := HR.out
      simp only [runP, List.append_nil] at hRR
      refine ⟨.tuple #[.slice so tk.length co, .int .i64 0], ?_, vwk, vok, .slice so tk.length co, cellsk, ?_, ?_, ?_, ?_, ((FF.of HF.out).set (E := w.heap.size + 1) (i := 0) (v := .slice so tk.length co) (.inr (by omega))).set (E := w.heap.size + 1 + 1) (i := 0) (v := .int .i64 0) (.inr (by omega))⟩
      · simp [results, Tryd.results12, go_sem]
        have q2 : (wr.setCell ⟨w.heap.size + 1, 0, none⟩ (.slice so tk.length co)).cell? ⟨w.heap.size + 1, 0, none⟩ = some (Value.slice so tk.length co) := HI.out.setSame.cbox.cell 0
        rw [q2]
        dsimp only [Result.andThen]
        rw [q1]
      · rw [hRR]; rfl
      · rw [hRR]; exact hI2.par
      · rw [hRR]; exact hI2.out
      · rw [hRR]; exact hI2.toks

set_option maxRecDepth 100000 in
set_option maxHeartbeats 8000000 in
/-- a broken parser -/
theorem feed_broken (base A : Nat) (p : PS) (vw vo : Value) (a : Option Addr) (n c : Nat) (w : World) (h : Par w base A p vw vo) (h0 : p.broken ≠ 0) :
    Calls Tryd.prog 12 #[pt A, .slice a n c] w fun o w' => o = .returned (.tuple #[.slice none 0 0, .int .i64 p.broken]) ∧ Below w.heap.size w w' := by
  have x5 : w.cell? ⟨A, 5, none⟩ = some (.int .i64 p.broken) := h.box.cell 5
  have hAl := h.box.lt
  have b1 := (Below.refl w.heap.size w).alloc (Nat.le_refl _) (.cells #[pt A] 23)
  have b2 := b1.alloc b1.size (.cells #[.slice none 0 0] 25)
  have b3 := b2.alloc b2.size (.cells #[.int .i64 0] 26)
  have y5 := (b3.cell (p := ⟨A, 5, none⟩) hAl).trans x5
  have e0 : ((p.broken : Int) != 0) = true := by unfold bne; rw [(beq_eq_false_iff_ne).2 (by omega)]; rfl
  have nC : ¬ A = w.heap.size + 1 := by omega
  have nC2 : ¬ w.heap.size + 1 = A := by omega
  clear b1 b2 b3 h
  go_enter_defers Tryd.func12, Tryd.ntmps12
  go_wp2_with fail
  go_region
  all_goals go_wp2
  refine ⟨.tuple #[.slice none 0 0, .int .i64 p.broken], ?_, rfl, ?_⟩
  · simp [results, Tryd.results12, go_sem]
  · have b1 := (Below.refl w.heap.size w).alloc (Nat.le_refl _) (.cells #[pt A] 23)
    have b2 := b1.alloc b1.size (.cells #[.slice none 0 0] 25)
    exact (b2.alloc b2.size (.cells #[.int .i64 p.broken] 26)).drew
end Go.Proofs.YtppgjkjdddanbaaDoor
