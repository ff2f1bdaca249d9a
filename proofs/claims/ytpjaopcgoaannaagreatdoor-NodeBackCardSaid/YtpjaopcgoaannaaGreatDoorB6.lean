/- node's must and small. -/
import Derived.Test.YtpjaopcgoaannaaGreatDoorB4
import Derived.Lib.AtoiErrMem
import Derived.ScopeJumps
import Derived.WalkMore
import Derived.WalkSmall
namespace Go.Proofs.YtpjaopcgoaannaaGreatDoor
open Go.RowKit Go.Lib
open Hb

def nfault : Value := .iface 56 (.agg #[])
def panicF : Ending := .panicked [{ v := nfault, recovered := false }]

theorem must_ok (w : World) : Calls Tryz.prog 37 #[.bool true] w fun o w' => o = .returned (.tuple #[]) ∧ w' = w := by
  go_enter Tryz.func37, Tryz.ntmps37
  go_wp2
  go_end0
  exact ⟨rfl, rfl⟩
theorem must_no (w : World) : Calls Tryz.prog 37 #[.bool false] w fun o w' => o = .panicked [{ v := .iface 56 (.agg #[]), recovered := false }] ∧ w' = w := by
  go_enter Tryz.func37, Tryz.ntmps37
  go_wp2
  exact ⟨rfl, rfl, rfl⟩

def digs : List UInt8 := [48, 49, 50, 51, 52, 53, 54, 55, 56, 57]
theorem digs_is (b : UInt8) : digs.contains b = isDig b := by
  have h : ∀ k : Fin 256, digs.contains (UInt8.ofNat k.val) = isDig (UInt8.ofNat k.val) := by decide +kernel
  have := h ⟨b.toNat, b.toNat_lt⟩
  simpa using this
theorem drop_nil {p : UInt8 → Bool} : ∀ {l : List UInt8}, l.dropWhile p = [] ↔ l.all p = true
  | [] => by simp
  | b :: r => by
    rw [List.dropWhile_cons]
    cases h : p b with
    | true => simp [h, drop_nil (l := r)]
    | false => simp [h]
theorem trim_nil (l : List UInt8) : Lib.trimS l digs = [] ↔ l.all isDig = true := by
  have hp : (digs.contains ·) = isDig := funext digs_is
  unfold Lib.trimS Lib.trimLeftS Lib.trimRightS
  rw [hp, drop_nil]
  constructor
  · intro h
    cases hd : l.reverse.dropWhile isDig with
    | nil =>
      rw [drop_nil] at hd
      simpa using hd
    | cons x r =>
      exfalso
      rw [hd] at h
      have h1 : isDig x = true := by
        have := List.all_eq_true.1 h x (by simp)
        exact this
      have h2 := List.head_dropWhile_not (p := isDig) (l := l.reverse) (by rw [hd]; simp)
      have h3 : (l.reverse.dropWhile isDig).head (by rw [hd]; simp) = x := by simp [hd]
      rw [h3, h1] at h2
      cases h2
  · intro h
    have : l.reverse.dropWhile isDig = [] := by rw [drop_nil]; simpa using h
    rw [this]
    rfl
theorem atoi_small {s : List UInt8} (h : smallOk s = true) : Lib.atoi s = some (val3 s : Int) := by
  have hs : smallR s = some (val3 s) := by unfold smallR; rw [if_pos h]
  obtain ⟨e, hn⟩ := dig_small hs
  have h1 : ∀ k : Fin 1000, Lib.atoi (dig k.val) = some (k.val : Int) := by decide +kernel
  have := h1 ⟨val3 s, hn⟩
  rw [← e] at this
  exact this
theorem head_at (s : ByteArray) (h : 0 < s.size) : (bl s).head? = some (s[0]'h) := by
  have h2 : 0 < (bl s).length := by rw [← size_bl]; exact h
  rw [List.head?_eq_getElem?, List.getElem?_eq_getElem h2]
  congr 1
/-- the answer of a reader that may give up -/
def Told {α : Type} (o : Option α) (f : α → Ending → World → Prop) (g : World → Prop) (e : Ending) (w' : World) : Prop := match o with
  | none => e = .panicked [{ v := .iface 56 (.agg #[]), recovered := false }] ∧ g w'
  | some a => f a e w'

set_option maxRecDepth 100000 in
set_option maxHeartbeats 8000000 in
theorem small_any (s : ByteArray) (w : World) (hs : s.size ≤ 9223372036854775807) :
    Calls Tryz.prog 54 #[.string s] w (Told (smallR (bl s)) (fun n e w' => e = .returned (.int .i64 n) ∧ Below w.heap.size w w') (fun w' => Below w.heap.size w w')) := by
  have hT := fun W => Any.strings_Trim_laid Tryz.lays160 (by kernel_rfl) s ⟨#[48, 49, 50, 51, 52, 53, 54, 55, 56, 57]⟩ W hs (by decide) (Go.Proofs.ascii_of_all (by decide))
  change ∀ W, Calls Tryz.prog 70 _ _ (fun e w' => e = .returned (.string ⟨(Lib.trimS (bl s) digs).toArray⟩) ∧ Below W.heap.size W w') at hT
  have htn := trim_nil (bl s)
  have HT := Lib.hid hT
  have HNo := Lib.hid must_no
  have HOk := Lib.hid must_ok
  clear hT
  generalize hr : Lib.trimS (bl s) digs = r at HT htn
  cases hok : smallOk (bl s) with
  | true =>
    have hat := atoi_small hok
    have HS : Hid (smallR (bl s) = some (val3 (bl s))) := by show _ = _; unfold smallR; rw [if_pos hok]
    unfold smallOk at hok
    simp only [Bool.and_eq_true, Bool.not_eq_true', decide_eq_true_eq, List.isEmpty_eq_false_iff] at hok
    obtain ⟨⟨⟨h1, h2⟩, h3⟩, h4⟩ := hok
    have hr0 : r = [] := htn.2 h3
    subst hr0
    have hsz : s.size ≤ 18 := by rw [size_bl]; omega
    have HAt := Lib.hid (fun W => Tryz.strconv_Atoi s (val3 (bl s)) hsz hat W)
    have hs3 : s.size ≤ 3 := by rw [size_bl]; exact h2
    have hne : (s.toList == []) = false := by
      rw [beq_eq_false_iff_ne]
      intro e
      apply h1
      rw [ByteArray.toList_eq] at e
      exact e
    generalize val3 (bl s) = v3 at HAt HS
    have e3 : decide ((s.size : Int) ≤ 3) = true := by rw [decide_eq_true_eq]; omega
    have hsp : 0 < s.size := by
      rw [size_bl]
      exact List.length_pos_iff.2 h1
    cases h0 : (s.toList == [48]) with
    | true =>
      clear hat h1 h2 h3 h4 hr htn
      go_enter Tryz.func54, Tryz.ntmps54
      go_wp2_with fail
      (with_reducible refine (HT.out _).mono ?_)
      rintro e w1 ⟨rfl, hb1⟩
      go_wp2_with fail
      (with_reducible refine (HOk.out _).mono ?_)
      rintro e w2 ⟨rfl, hw⟩
      obtain rfl := hw.symm
      go_wp2_with fail
      (with_reducible refine (HAt.out _).mono ?_)
      rintro e w3 ⟨rfl, t, rfl⟩
      go_wp2_with fail
      go_returns
      unfold Told
      rw [HS.out]
      exact ⟨rfl, hb1.trans ((Lib.bytesWorld_below _ _ _).mono hb1.size)⟩
    | false =>
      have hh : (bl s).head? ≠ some 48 := by
        rcases Bool.or_eq_true _ _ ▸ h4 with h | h
        · rw [beq_iff_eq] at h
          rw [beq_eq_false_iff_ne] at h0
          exact absurd (by rw [ByteArray.toList_eq]; exact h) h0
        · simpa using h
      rw [head_at s hsp] at hh
      have hc : ((((s[0]'hsp).toNat : Nat) : Int) != 48) = true := by
        rw [bne_iff_ne]
        intro e
        apply hh
        congr 1
        apply UInt8.toNat.inj
        show (s[0]'hsp).toNat = 48
        omega
      clear hat h1 h2 h3 h4 hr htn hh
      go_enter Tryz.func54, Tryz.ntmps54
      go_wp2_with fail
      (with_reducible refine (HT.out _).mono ?_)
      rintro e w1 ⟨rfl, hb1⟩
      go_wp2_with fail
      (with_reducible refine (HOk.out _).mono ?_)
      rintro e w2 ⟨rfl, hw⟩
      obtain rfl := hw.symm
      go_wp2_with fail
      (with_reducible refine (HAt.out _).mono ?_)
      rintro e w3 ⟨rfl, t, rfl⟩
      go_wp2_with fail
      go_returns
      unfold Told
      rw [HS.out]
      exact ⟨rfl, hb1.trans ((Lib.bytesWorld_below _ _ _).mono hb1.size)⟩
  | false =>
    have HS : Hid (smallR (bl s) = none) := by show _ = _; unfold smallR; rw [if_neg (by rw [hok]; decide)]
    unfold smallOk at hok
    have hsb := size_bl s
    by_cases hz : s.size = 0
    · have hne : (s.toList == []) = true := by
        rw [beq_iff_eq, ByteArray.toList_eq]
        exact List.eq_nil_of_length_eq_zero (by rw [← hsb]; exact hz)
      clear hok htn hr HT hsb hz
      go_enter Tryz.func54, Tryz.ntmps54
      go_wp2_with fail
      (with_reducible refine (HNo.out _).mono ?_)
      rintro e w2 ⟨rfl, hw⟩
      obtain rfl := hw.symm
      go_wp2_with fail
      unfold Told
      rw [HS.out]
      exact ⟨rfl, rfl, Below.refl _ _⟩
    have hsp : 0 < s.size := by omega
    have hne : (s.toList == []) = false := by
      rw [beq_eq_false_iff_ne, ByteArray.toList_eq]
      intro e
      have : (bl s).length = 0 := congrArg List.length e
      omega
    have hemp : (bl s).isEmpty = false := by
      rw [List.isEmpty_eq_false_iff]
      intro e
      have : (bl s).length = 0 := congrArg List.length e
      omega
    by_cases h3 : 3 < s.size
    · have e3 : decide ((s.size : Int) ≤ 3) = false := by rw [decide_eq_false_iff_not]; omega
      clear hok htn hr HT hsb hz hemp
      go_enter Tryz.func54, Tryz.ntmps54
      go_wp2_with fail
      (with_reducible refine (HNo.out _).mono ?_)
      rintro e w2 ⟨rfl, hw⟩
      obtain rfl := hw.symm
      go_wp2_with fail
      unfold Told
      rw [HS.out]
      exact ⟨rfl, rfl, Below.refl _ _⟩
    have e3 : decide ((s.size : Int) ≤ 3) = true := by rw [decide_eq_true_eq]; omega
    rw [hemp, decide_eq_true (by omega : (bl s).length ≤ 3)] at hok
    cases r with
    | cons x r =>
      clear hok htn hr hsb hz hemp
      go_enter Tryz.func54, Tryz.ntmps54
      go_wp2_with fail
      (with_reducible refine (HT.out _).mono ?_)
      rintro e w1 ⟨rfl, hb1⟩
      go_wp2_with fail
      (with_reducible refine (HNo.out _).mono ?_)
      rintro e w2 ⟨rfl, hw⟩
      obtain rfl := hw.symm
      go_wp2_with fail
      unfold Told
      rw [HS.out]
      exact ⟨rfl, rfl, hb1⟩
    | nil =>
      rw [htn.1 rfl] at hok
      simp only [Bool.not_false, Bool.true_and, Bool.or_eq_false_iff] at hok
      have h0 : (s.toList == [48]) = false := by
        rw [ByteArray.toList_eq]
        exact hok.1
      have h4 := hok.2
      rw [head_at s hsp] at h4
      have h5 : s[0]'hsp = 48 := by simpa using h4
      have hc : ((((s[0]'hsp).toNat : Nat) : Int) != 48) = false := by rw [h5]; rfl
      clear hok htn hr hsb hz hemp h4 h5
      go_enter Tryz.func54, Tryz.ntmps54
      go_wp2_with fail
      (with_reducible refine (HT.out _).mono ?_)
      rintro e w1 ⟨rfl, hb1⟩
      go_wp2_with fail
      (with_reducible refine (HNo.out _).mono ?_)
      rintro e w2 ⟨rfl, hw⟩
      obtain rfl := hw.symm
      go_wp2_with fail
      unfold Told
      rw [HS.out]
      exact ⟨rfl, rfl, hb1⟩
end Go.Proofs.YtpjaopcgoaannaaGreatDoor
