/- jid.low and jid.Normal: what they answer. -/
import Derived.Test.YtpjaopcgoaannaaGreatDoorJ2
import Derived.Lib.ConvBytes
import Derived.Lib.SmallJoins
import Derived.Laws.BytesString
import Derived.Deep.RegionHeld3
namespace Go.Proofs.YtpjaopcgoaannaaGreatDoor
open Go.RowKit
open Hb

def lowN (n : Nat) : Nat := if 65 ≤ n ∧ n < 91 then n + 32 else n
def lowC (c : UInt8) : UInt8 := UInt8.ofNat (lowN c.toNat)
def lowB (s : ByteArray) : ByteArray := ⟨(s.data.toList.map lowC).toArray⟩
/-- The row as it is when the first k bytes are done. -/
def lowK (l : List UInt8) (k : Nat) : List UInt8 := (l.take k).map lowC ++ l.drop k

/-- A row of bytes, to be read. -/
def RowB (w : World) (B : Nat) (l : List UInt8) : Prop := ∀ j u, (cellsB l)[j]? = some u → w.cell? ⟨B, j, none⟩ = some u
theorem RowB.at {w : World} {B : Nat} {l : List UInt8} (h : RowB w B l) (j : Nat) (hj : j < l.length) : w.cell? ⟨B, j, none⟩ = some (.int .u8 l[j].toNat) := h j _ (by simp [cellsB, hj])
theorem RowB.of {w : World} {B : Nat} {l : List UInt8} (h : ∀ j (hj : j < l.length), w.cell? ⟨B, j, none⟩ = some (.int .u8 l[j].toNat)) : RowB w B l := by
  intro j u hu
  by_cases hj : j < l.length
  · rw [h j hj]
    simpa [cellsB, hj] using hu
  · simp [cellsB, hj] at hu
theorem run_stringR {P : Program} {w : World} {B n cap : Nat} {src dst e : TypeId} {l : List UInt8} (hs : P.underlying src = some (.slice e)) (he : P.underlying e = some (.int .u8)) (hd : P.underlying dst = some .string)
    (h : RowB w B l) (hn : n = l.length) : (convert src dst (.slice (some ⟨B, 0, none⟩) n cap)).run P w = .ok (.string ⟨l.toArray⟩) w := by
  have hxs : strOfNums (l.map fun b => (b.toNat : Int)) = ⟨l.toArray⟩ := by
    unfold strOfNums
    congr 1
    simp [List.map_map, Function.comp_def]
  subst hn
  rw [← hxs]
  refine run_convert_bytes_arg w src e hs he B 0 l.length cap (l.map fun b => (b.toNat : Int)) (by simp) (fun i hi => ?_) dst hd
  have hc := h i (.int .u8 ((l.map fun b => (b.toNat : Int)).getD i 0)) (by simp [cellsB, List.getD_eq_getElem?_getD, List.getElem?_eq_getElem hi])
  rwa [Nat.zero_add]
theorem RowB.set {w : World} {B : Nat} {l l' : List UInt8} (h : RowB w B l) (k : Nat) (hk : k < l.length) (c : UInt8) (hl : l' = l.set k c) : RowB (w.setCell ⟨B, k, none⟩ (.int .u8 c.toNat)) B l' := by
  subst hl
  refine RowB.of fun j hj => ?_
  rw [List.length_set] at hj
  by_cases hjk : k = j
  · subst hjk
    rw [List.getElem_set_self]
    exact World.cell?_setCell_same _ _ _ (h.at k hk)
  · rw [List.getElem_set_ne hjk]
    rw [World.cell?_setCell_other _ _ _ _ (by intro h; cases h; exact hjk rfl)]
    exact h.at j hj

theorem lowK_length (l : List UInt8) (k : Nat) : (lowK l k).length = l.length := by simp [lowK]; omega
theorem lowK_zero (l : List UInt8) : lowK l 0 = l := by simp [lowK]
theorem lowK_all (l : List UInt8) : lowK l l.length = l.map lowC := by simp [lowK]
theorem lowK_at (l : List UInt8) (k : Nat) (h : k < l.length) : (lowK l k)[k]'(by rw [lowK_length]; exact h) = l[k] := by
  simp [lowK, Nat.min_eq_left (Nat.le_of_lt h)]
theorem lowK_step (l : List UInt8) (k : Nat) (h : k < l.length) : lowK l (k + 1) = (lowK l k).set k (lowC l[k]) := by
  unfold lowK
  rw [List.take_succ_eq_append_getElem h, List.map_append, List.drop_eq_getElem_cons h]
  rw [List.set_append_right _ _ (by simp; omega)]
  simp only [List.length_map, List.length_take, Nat.min_eq_left (Nat.le_of_lt h), Nat.sub_self, List.set_cons_zero, List.append_assoc, List.map_cons, List.map_nil, List.singleton_append]
theorem lowC_big : ∀ n, n < 256 → 65 ≤ n ∧ n < 91 → Go.bits .or .u8 ((n : Nat) : Int) 32 = ((lowC (UInt8.ofNat n)).toNat : Int) := by decide +kernel
theorem lowC_same (c : UInt8) (h : ¬ (65 ≤ c.toNat ∧ c.toNat < 91)) : lowC c = c := by
  unfold lowC lowN
  rw [if_neg h]
  simp

set_option maxHeartbeats 1000000 in
theorem low_any (s : ByteArray) (w : World) (hs : s.size ≤ 64) :
    Calls Tryz.prog 65 #[.string s] w fun e w' => e = .returned (.string (lowB s)) ∧ Below w.heap.size w w' := by
  have hconv := Lib.run_convert_string_bytes (P := Tryz.prog) w 9 39 5 s Tryz.underlying9 Tryz.underlying39 Tryz.underlying5
  have hB := Joins.below_bytesWorld w.heap.size w 5 s (Nat.le_refl _)
  have hnew := Lib.bytesWorld_at_new w 5 s
  have hls : s.data.toList.length = s.size := (Lib.size_eq s).symm
  have hrow : RowB (Lib.bytesWorld w 5 s) w.heap.size s.data.toList := RowB.of fun j hj => by
    unfold World.cell?
    rw [hnew]
    simp only [Option.isSome_none]
    show (Lib.bytesCells w 5 s)[j]? = _
    unfold Lib.bytesCells
    rw [Array.getElem?_append_left (by simp; simpa using hj)]
    simp
    exact ⟨s.data[j]'(by simpa using hj), by simp, rfl⟩
  have hfr : ∀ j, j < s.size → (Lib.bytesWorld w 5 s).frozen? ⟨w.heap.size, j, none⟩ = false := fun j hj => by
    unfold World.frozen?
    rw [hnew]
    have : j < (Lib.bytesCells w 5 s).size := by
      unfold Lib.bytesCells
      simp
      have : s.data.size = s.size := rfl
      omega
    simp
    omega
  clear hnew
  generalize Lib.bytesWorld w 5 s = W at hconv hB hrow hfr
  generalize grownCap w s.size 0 5 = cap at hconv
  generalize hBB : w.heap.size = B at hconv hrow hfr hB
  have hwB : B ≤ w.heap.size := by omega
  generalize hL : s.data.toList = L at hrow hls
  go_enter Tryz.func65, Tryz.ntmps65
  go_wp2_with fail
  clear hconv
  have H0 := Lib.hid hrow
  clear hrow
  go_loopw [10] (fun i W => (∀ j, j < s.size → W.frozen? ⟨B, j, none⟩ = false) ∧ Below B w W ∧ ∃ k : Nat, k ≤ s.size ∧ i = .int .i64 k ∧ Hid (RowB W B (lowK L k))) (fun i _ => s.size - (intOf i).toNat)
  case atStart => exact ⟨hfr, hB, 0, Nat.zero_le _, rfl, by show RowB _ _ _; rw [lowK_zero]; exact H0.out⟩
  case round =>
    obtain ⟨hfr, hB, k, hk, rfl, HR⟩ := hrel
    by_cases hlt : k < s.size
    · have hkl : k < L.length := by omega
      have hc : wr.cell? ⟨B, k, none⟩ = some (.int .u8 L[k].toNat) := by
        have := HR.out.at k (by rw [lowK_length]; exact hkl)
        rwa [lowK_at L k hkl] at this
      have hf := hfr k hlt
      have hstep := lowK_step L k hkl
      have hset := fun c h => HR.out.set (l' := lowK L (k + 1)) k (by rw [lowK_length]; exact hkl) c h
      have hc256 := L[k].toNat_lt
      by_cases hu : 65 ≤ L[k].toNat ∧ L[k].toNat < 91
      · have d1 : decide ((65 : Int) ≤ (L[k].toNat : Int)) = true := by simp; omega
        have d2 : decide ((L[k].toNat : Int) ≤ 90) = true := by simp; omega
        have hor := lowC_big L[k].toNat hc256 hu
        rw [UInt8.ofNat_toNat] at hor
        have HN : Hid (RowB (wr.setCell ⟨B, k, none⟩ (.int .u8 (lowC L[k]).toNat)) B (lowK L (k + 1))) := hset _ hstep
        generalize lowC L[k] = q at hor HN
        clear hset hstep HR
        go_wp2_with fail
        go_roundw
        case rel => exact ⟨by simpa using hfr, hB.setCell (Nat.le_refl _) _, k + 1, by omega, by go_num, HN⟩
        case measure => simp [intOf]; omega
      · have d12 : decide ((65 : Int) ≤ (L[k].toNat : Int)) = false ∨ (decide ((65 : Int) ≤ (L[k].toNat : Int)) = true ∧ decide ((L[k].toNat : Int) ≤ 90) = false) := by
          by_cases h : 65 ≤ L[k].toNat
          · right; simp; omega
          · left; simp; omega
        have HN : Hid (RowB wr B (lowK L (k + 1))) := by
          show RowB _ _ _
          rw [hstep, lowC_same _ hu]
          have : (lowK L k).set k L[k] = lowK L k := by
            conv => lhs; rw [← lowK_at L k hkl]
            exact List.set_getElem_self _
          rw [this]
          exact HR.out
        clear hset hstep HR
        rcases d12 with d1 | ⟨d1, d2⟩
        · go_wp2_with fail
          go_roundw
          case rel => exact ⟨hfr, hB, k + 1, by omega, by go_num, HN⟩
          case measure => simp [intOf]; omega
        · go_wp2_with fail
          go_roundw
          case rel => exact ⟨hfr, hB, k + 1, by omega, by go_num, HN⟩
          case measure => simp [intOf]; omega
    · have hke : k = L.length := by omega
      have hR2 := HR.out
      rw [hke, lowK_all] at hR2
      have hcv := run_stringR (P := Tryz.prog) (cap := cap) (n := s.size) Tryz.underlying39 Tryz.underlying5 Tryz.underlying9 hR2 (by simp; omega)
      have HF : Hid (lowB s = ⟨(L.map lowC).toArray⟩) := by show _ = _; unfold lowB; rw [hL]
      clear HR hR2
      go_wp2_with fail
      go_ret
      exact ⟨by rw [HF.out]; rfl, hB⟩

end Go.Proofs.YtpjaopcgoaannaaGreatDoor
