/- The reference of Unescape: what it answers, for every text. -/
import Derived.Test.YtmfeojhphdmodaaDoorTr1
import Derived.Test.YtmfeojhphdmodaaDoorTx2
namespace Go.Proofs.YtmfeojhphdmodaaDoor
open Go.RowKit
open Hb

def un (l : List UInt8) : Option (List UInt8) := unesc (l.length + 1) l
def entq : Nat → List UInt8
  | 0 => [38, 97, 109, 112, 59]
  | 1 => [38, 108, 116, 59]
  | 2 => [38, 103, 116, 59]
  | 3 => [38, 97, 112, 111, 115, 59]
  | _ => [38, 113, 117, 111, 116, 59]
def chrq : Nat → UInt8
  | 0 => 38
  | 1 => 60
  | 2 => 62
  | 3 => 39
  | _ => 34
theorem un_nil : un [] = some [] := unesc_nil 0
theorem un_lt (l : List UInt8) : un (60 :: l) = none := unesc_lt _ l
theorem un_plain (b : UInt8) (l : List UInt8) (h1 : b ≠ 38) (h2 : b ≠ 60) : un (b :: l) = (un l).map fun r => b :: r := by
  unfold un
  rw [unesc_plain _ b l h1 h2, unesc_fuel _ (l.length + 1) l (by simp only [List.length_cons]; omega) (by omega)]
theorem un_amp (nm l : List UInt8) (c : UInt8) (h1 : charOf nm = some c) (h2 : (59 : UInt8) ∉ nm) : un (38 :: (nm ++ 59 :: l)) = (un l).map fun r => c :: r := by
  unfold un
  rw [unesc_amp _ nm l c h1 h2, unesc_fuel _ (l.length + 1) l (by simp; omega) (by omega)]
theorem un_ent (q : Nat) (l : List UInt8) : un (entq q ++ l) = (un l).map fun r => chrq q :: r := by
  match q with
  | 0 => exact un_amp [97, 109, 112] l 38 rfl (by decide)
  | 1 => exact un_amp [108, 116] l 60 rfl (by decide)
  | 2 => exact un_amp [103, 116] l 62 rfl (by decide)
  | 3 => exact un_amp [97, 112, 111, 115] l 39 rfl (by decide)
  | n + 4 => exact un_amp [113, 117, 111, 116] l 34 rfl (by decide)
theorem charOf_ent {nm : List UInt8} {c : UInt8} (h : charOf nm = some c) : ∃ q, q < 5 ∧ 38 :: (nm ++ [59]) = entq q := by
  unfold charOf at h
  repeat' split at h
  all_goals first | (subst_vars; first | exact ⟨0, by decide, rfl⟩ | exact ⟨1, by decide, rfl⟩ | exact ⟨2, by decide, rfl⟩ | exact ⟨3, by decide, rfl⟩ | exact ⟨4, by decide, rfl⟩) | (simp at h; done)
theorem un_none (l : List UInt8) (h : ∀ q, q < 5 → ¬ entq q <+: 38 :: l) : un (38 :: l) = none := by
  unfold un
  simp only [List.length_cons]
  have e : cutAt 38 (38 :: l) = ([], l, true) := by simp [cutAt]
  unfold unesc
  rw [e]
  simp only [List.not_mem_nil, if_false, Bool.true_eq_false]
  rcases idx_cut 59 l with ⟨-, k, -⟩ | ⟨i, hi, -, k, -, hl⟩
  · rw [k]; simp
  · rw [k]
    simp only [Bool.true_eq_false, if_false]
    cases hc : charOf (l.take i) with
    | none => rfl
    | some c =>
      exfalso
      obtain ⟨q, hq, he⟩ := charOf_ent hc
      refine h q hq ⟨l.drop (i + 1), ?_⟩
      rw [← he]
      conv => rhs; rw [hl]
      simp
theorem un_step (L pre : List UInt8) (k : Nat) (x : List UInt8) (r : List UInt8) (h : un L = (un (L.drop k)).map fun t => pre ++ t) (hd : un (L.drop k) = (un r).map fun t => x ++ t) :
    un L = (un r).map fun t => (pre ++ x) ++ t := by
  rw [h, hd, Option.map_map]
  congr 1
  funext t
  simp
theorem piece_beq (s : ByteArray) (k n : Nat) (p : List UInt8) (hp : p.length = n) (_hk : k + n ≤ s.size) :
    (s.extract k (k + n) == ByteArray.mk p.toArray) = decide (p <+: s.data.toList.drop k) := by
  have hs : (s.extract k (k + n)).data.toList = (s.data.toList.drop k).take n := by
    rw [ByteArray.data_extract, Array.toList_extract, List.extract_eq_take_drop]
    congr 1; omega
  rw [Bool.eq_iff_iff, MapKept.bytes_beq, decide_eq_true_eq, List.prefix_iff_eq_take, hp, ← hs]
  constructor
  · intro h; rw [h]
  · intro h
    apply ByteArray.ext
    rw [← Array.toList_inj, ← h]
theorem beq_toList (x : ByteArray) (l : List UInt8) : (x == ByteArray.mk l.toArray) = (x.toList == l) := by
  rw [Bool.eq_iff_iff, MapKept.bytes_beq, beq_iff_eq, ByteArray.toList_eq]
  constructor
  · intro h; rw [h]
  · intro h
    apply ByteArray.ext
    rw [← Array.toList_inj, h]

set_option maxHeartbeats 8000000 in
theorem refUnescape_any (s : ByteArray) (w : World) (hs : s.size ≤ 4294967296) :
    Calls Tryd.prog 13 #[.string s] w fun e w' => e = .returned (Told (unesc (s.size + 1) s.data.toList)) ∧ Below w.heap.size w w' := by
  have hun : unesc (s.size + 1) s.data.toList = un s.data.toList := by unfold un; rw [Lib.size_eq]
  rw [hun]
  clear hun
  generalize hL : s.data.toList = L
  go_enter Tryd.func13, Tryd.ntmps13
  go_wp2_with fail
  refine (refEntities_any _).mono ?_
  rintro e w' ⟨rfl, rfl⟩
  have hb : (w.alloc (.cells rcells 48)).heap[w.heap.size]? = some (.cells #[.string ⟨#[38]⟩, .string ⟨#[38, 97, 109, 112, 59]⟩, .string ⟨#[60]⟩, .string ⟨#[38, 108, 116, 59]⟩, .string ⟨#[62]⟩, .string ⟨#[38, 103, 116, 59]⟩, .string ⟨#[39]⟩, .string ⟨#[38, 97, 112, 111, 115, 59]⟩, .string ⟨#[34]⟩, .string ⟨#[38, 113, 117, 111, 116, 59]⟩] 48) := (MapKept.heap_alloc w _).1
  have hB : Below w.heap.size w (w.alloc (.cells rcells 48)) := (Below.refl _ w).alloc (Nat.le_refl _) _
  generalize w.alloc (.cells rcells 48) = W at hb hB
  generalize hB0 : w.heap.size = B at hb hB
  have HB : Hid (Below B w W) := hB
  clear hB
  have a0 : W.cell? { block := B, off := 0 } = some (.string ⟨#[38]⟩) := by simp [World.cell?, hb]
  have b0 : W.cell? { block := B, off := 1 } = some (.string ⟨#[38, 97, 109, 112, 59]⟩) := by simp [World.cell?, hb]
  have a1 : W.cell? { block := B, off := 2 } = some (.string ⟨#[60]⟩) := by simp [World.cell?, hb]
  have b1 : W.cell? { block := B, off := 3 } = some (.string ⟨#[38, 108, 116, 59]⟩) := by simp [World.cell?, hb]
  have a2 : W.cell? { block := B, off := 4 } = some (.string ⟨#[62]⟩) := by simp [World.cell?, hb]
  have b2 : W.cell? { block := B, off := 5 } = some (.string ⟨#[38, 103, 116, 59]⟩) := by simp [World.cell?, hb]
  have a3 : W.cell? { block := B, off := 6 } = some (.string ⟨#[39]⟩) := by simp [World.cell?, hb]
  have b3 : W.cell? { block := B, off := 7 } = some (.string ⟨#[38, 97, 112, 111, 115, 59]⟩) := by simp [World.cell?, hb]
  have a4 : W.cell? { block := B, off := 8 } = some (.string ⟨#[34]⟩) := by simp [World.cell?, hb]
  have b4 : W.cell? { block := B, off := 9 } = some (.string ⟨#[38, 113, 117, 111, 116, 59]⟩) := by simp [World.cell?, hb]
  clear hb
  go_wp2_with fail
  go_loop [4, 6] (fun o i => ∃ (k : Nat) (pre : List UInt8), k ≤ s.size ∧ pre.length ≤ k ∧ i = .int .i64 k ∧ o = .string ⟨pre.toArray⟩ ∧ Hid (un L = (un (L.drop k)).map fun t => pre ++ t)) (fun _ i => s.size - (intOf i).toNat)
  case atStart => exact ⟨0, [], Nat.zero_le _, Nat.le_refl _, rfl, rfl, by show _ = _; simp⟩
  case round =>
    obtain ⟨k, pre, hk, hpl, rfl, rfl, HC⟩ := hrel
    by_cases hlt : k < s.size
    · have hdr : L.drop k = s[k] :: L.drop (k + 1) := by
        rw [← hL]
        exact List.drop_eq_getElem_cons (by simpa using hlt)
      have hx := one_at s k hlt
      have hps : (ByteArray.mk pre.toArray).size ≤ 4294967296 := by simp [ByteArray.size]; omega
      by_cases h60 : s[k].toNat = 60
      · have e60 : ((s[k].toNat : Int) == 60) = true := by rw [beq_iff_eq]; omega
        have HF : Hid (un L = none) := by
          show _ = _
          rw [HC.out, hdr, code_lit s[k] 60 h60 (by omega)]
          exact congrArg _ (un_lt _)
        clear hdr hx HC
        go_wp2_with fail
        go_ret2
        exact ⟨by rw [HF.out]; rfl, by first | exact HB.out | (rw [hB0]; exact HB.out)⟩
      · have e60 : ((s[k].toNat : Int) == 60) = false := by rw [beq_eq_false_iff_ne]; omega
        by_cases h38 : s[k].toNat = 38
        · have e38 : ((s[k].toNat : Int) != 38) = false := by rw [bne_eq_false_iff_eq]; omega
          have hd38 : L.drop k = 38 :: L.drop (k + 1) := by rw [hdr, code_lit s[k] 38 h38 (by omega)]; rfl
          have HN : Hid ((∀ q, q < 5 → ¬ entq q <+: L.drop k) → un L = none) := by
            intro hq
            rw [HC.out]
            rw [hd38] at hq ⊢
            rw [un_none _ hq]
            rfl
          have HS : Hid (∀ q, entq q <+: L.drop k → un L = (un (L.drop (k + (entq q).length))).map fun t => (pre ++ [chrq q]) ++ t) := by
            rintro q ⟨r, hr⟩
            have hr' : r = L.drop (k + (entq q).length) := by
              rw [← List.drop_drop, ← hr, List.drop_left]
            rw [← hr']
            refine un_step L pre k [chrq q] r HC.out ?_
            rw [← hr, un_ent]
            rfl
          clear hdr hx HC hd38
          go_wp2_with fail
          go_loop [4, 6, 7, 8] (fun o i f kk => ∃ j : Int, 0 ≤ j ∧ j ≤ 5 ∧ kk = .int .i64 j ∧
              ((f = .bool false ∧ o = .string ⟨pre.toArray⟩ ∧ i = .int .i64 k ∧ Hid (∀ q, q < j.toNat → ¬ entq q <+: L.drop k)) ∨
               (f = .bool true ∧ ∃ (k1 : Nat) (pre1 : List UInt8), k < k1 ∧ k1 ≤ s.size ∧ pre1.length ≤ k1 ∧ i = .int .i64 k1 ∧ o = .string ⟨pre1.toArray⟩ ∧ Hid (un L = (un (L.drop k1)).map fun t => pre1 ++ t)))) (fun _ _ _ kk => 5 - (intOf kk).toNat)
          case atStart => exact ⟨0, by omega, by omega, rfl, Or.inl ⟨rfl, rfl, rfl, fun q hq => by simp at hq⟩⟩
          case round =>
            obtain ⟨j, j0, j5, rfl, (⟨rfl, rfl, rfl, HQ⟩ | ⟨rfl, k1, pre1, hk1, hk1s, hpl1, rfl, rfl, HC1⟩)⟩ := hrel
            · rcases (by omega : j = 0 ∨ j = 1 ∨ j = 2 ∨ j = 3 ∨ j = 4 ∨ j = 5) with rfl | rfl | rfl | rfl | rfl | rfl
              · by_cases hf : k + 5 ≤ s.size
                · have hsl : ∀ W : World, (Instr.slice 9 (.string s) (some (.int .i64 (k : Int))) (some (.int .i64 ((k : Int) + 5))) none).run Tryd.prog W = .ok (.string (s.extract k (k + 5))) W := fun W => by
                    have := run_slice_string (P := Tryd.prog) W 9 s .i64 .i64 (k : Int) ((k : Int) + 5) Tryd.underlying9 (by omega) (by omega) (by omega)
                    rw [show ((k : Int) + 5).toNat = k + 5 by omega] at this
                    simpa using this
                  have hpb := piece_beq s k 5 (entq 0) rfl hf
                  rw [hL] at hpb
                  by_cases hm : entq 0 <+: L.drop k
                  · have m1 : (ByteArray.mk pre.toArray ++ ByteArray.mk #[38]) = ByteArray.mk (pre ++ [38]).toArray := cat_mk pre [38]
                    have HG : Hid (un L = (un (L.drop (k + 5))).map fun t => (pre ++ [38]) ++ t) := HS.out 0 hm
                    rw [decide_eq_true hm] at hpb
                    change (_ == ByteArray.mk [38, 97, 109, 112, 59].toArray) = true at hpb
                    rw [beq_toList] at hpb
                    generalize s.extract k (k + 5) = x at hsl hpb
                    clear hm HQ HN HS
                    go_wp2_with fail
                    go_round
                    case rel => exact ⟨1, by omega, by omega, rfl, Or.inr ⟨rfl, k + 5, pre ++ [38], by omega, hf, by simp; omega, by go_num, rfl, HG⟩⟩
                    case measure => simp [intOf]
                  · have HQ1 : Hid (∀ q, q < (1 : Int).toNat → ¬ entq q <+: L.drop k) := fun q hq => by
                      rcases (by omega : q < 0 ∨ q = 0) with h | rfl
                      · exact HQ.out q (by omega)
                      · exact hm
                    rw [decide_eq_false hm] at hpb
                    change (_ == ByteArray.mk [38, 97, 109, 112, 59].toArray) = false at hpb
                    rw [beq_toList] at hpb
                    generalize s.extract k (k + 5) = x at hsl hpb
                    clear hm HQ HN HS
                    go_wp2_with fail
                    go_round
                    case rel => exact ⟨1, by omega, by omega, rfl, Or.inl ⟨rfl, rfl, rfl, HQ1⟩⟩
                    case measure => simp [intOf]
                · have HQ1 : Hid (∀ q, q < (1 : Int).toNat → ¬ entq q <+: L.drop k) := fun q hq => by
                    rcases (by omega : q < 0 ∨ q = 0) with h | rfl
                    · exact HQ.out q (by omega)
                    · intro hm
                      have h1 := hm.length_le
                      have h2 : L.length = s.size := by rw [← hL, Lib.size_eq]
                      simp [entq] at h1
                      omega
                  clear HQ HN HS
                  go_wp2_with fail
                  go_round
                  case rel => exact ⟨1, by omega, by omega, rfl, Or.inl ⟨rfl, rfl, rfl, HQ1⟩⟩
                  case measure => simp [intOf]
              · by_cases hf : k + 4 ≤ s.size
                · have hsl : ∀ W : World, (Instr.slice 9 (.string s) (some (.int .i64 (k : Int))) (some (.int .i64 ((k : Int) + 4))) none).run Tryd.prog W = .ok (.string (s.extract k (k + 4))) W := fun W => by
                    have := run_slice_string (P := Tryd.prog) W 9 s .i64 .i64 (k : Int) ((k : Int) + 4) Tryd.underlying9 (by omega) (by omega) (by omega)
                    rw [show ((k : Int) + 4).toNat = k + 4 by omega] at this
                    simpa using this
                  have hpb := piece_beq s k 4 (entq 1) rfl hf
                  rw [hL] at hpb
                  by_cases hm : entq 1 <+: L.drop k
                  · have m1 : (ByteArray.mk pre.toArray ++ ByteArray.mk #[60]) = ByteArray.mk (pre ++ [60]).toArray := cat_mk pre [60]
                    have HG : Hid (un L = (un (L.drop (k + 4))).map fun t => (pre ++ [60]) ++ t) := HS.out 1 hm
                    rw [decide_eq_true hm] at hpb
                    change (_ == ByteArray.mk [38, 108, 116, 59].toArray) = true at hpb
                    rw [beq_toList] at hpb
                    generalize s.extract k (k + 4) = x at hsl hpb
                    clear hm HQ HN HS
                    go_wp2_with fail
                    go_round
                    case rel => exact ⟨2, by omega, by omega, rfl, Or.inr ⟨rfl, k + 4, pre ++ [60], by omega, hf, by simp; omega, by go_num, rfl, HG⟩⟩
                    case measure => simp [intOf]
                  · have HQ1 : Hid (∀ q, q < (2 : Int).toNat → ¬ entq q <+: L.drop k) := fun q hq => by
                      rcases (by omega : q < 1 ∨ q = 1) with h | rfl
                      · exact HQ.out q (by omega)
                      · exact hm
                    rw [decide_eq_false hm] at hpb
                    change (_ == ByteArray.mk [38, 108, 116, 59].toArray) = false at hpb
                    rw [beq_toList] at hpb
                    generalize s.extract k (k + 4) = x at hsl hpb
                    clear hm HQ HN HS
                    go_wp2_with fail
                    go_round
                    case rel => exact ⟨2, by omega, by omega, rfl, Or.inl ⟨rfl, rfl, rfl, HQ1⟩⟩
                    case measure => simp [intOf]
                · have HQ1 : Hid (∀ q, q < (2 : Int).toNat → ¬ entq q <+: L.drop k) := fun q hq => by
                    rcases (by omega : q < 1 ∨ q = 1) with h | rfl
                    · exact HQ.out q (by omega)
                    · intro hm
                      have h1 := hm.length_le
                      have h2 : L.length = s.size := by rw [← hL, Lib.size_eq]
                      simp [entq] at h1
                      omega
                  clear HQ HN HS
                  go_wp2_with fail
                  go_round
                  case rel => exact ⟨2, by omega, by omega, rfl, Or.inl ⟨rfl, rfl, rfl, HQ1⟩⟩
                  case measure => simp [intOf]
              · by_cases hf : k + 4 ≤ s.size
                · have hsl : ∀ W : World, (Instr.slice 9 (.string s) (some (.int .i64 (k : Int))) (some (.int .i64 ((k : Int) + 4))) none).run Tryd.prog W = .ok (.string (s.extract k (k + 4))) W := fun W => by
                    have := run_slice_string (P := Tryd.prog) W 9 s .i64 .i64 (k : Int) ((k : Int) + 4) Tryd.underlying9 (by omega) (by omega) (by omega)
                    rw [show ((k : Int) + 4).toNat = k + 4 by omega] at this
                    simpa using this
                  have hpb := piece_beq s k 4 (entq 2) rfl hf
                  rw [hL] at hpb
                  by_cases hm : entq 2 <+: L.drop k
                  · have m1 : (ByteArray.mk pre.toArray ++ ByteArray.mk #[62]) = ByteArray.mk (pre ++ [62]).toArray := cat_mk pre [62]
                    have HG : Hid (un L = (un (L.drop (k + 4))).map fun t => (pre ++ [62]) ++ t) := HS.out 2 hm
                    rw [decide_eq_true hm] at hpb
                    change (_ == ByteArray.mk [38, 103, 116, 59].toArray) = true at hpb
                    rw [beq_toList] at hpb
                    generalize s.extract k (k + 4) = x at hsl hpb
                    clear hm HQ HN HS
                    go_wp2_with fail
                    go_round
                    case rel => exact ⟨3, by omega, by omega, rfl, Or.inr ⟨rfl, k + 4, pre ++ [62], by omega, hf, by simp; omega, by go_num, rfl, HG⟩⟩
                    case measure => simp [intOf]
                  · have HQ1 : Hid (∀ q, q < (3 : Int).toNat → ¬ entq q <+: L.drop k) := fun q hq => by
                      rcases (by omega : q < 2 ∨ q = 2) with h | rfl
                      · exact HQ.out q (by omega)
                      · exact hm
                    rw [decide_eq_false hm] at hpb
                    change (_ == ByteArray.mk [38, 103, 116, 59].toArray) = false at hpb
                    rw [beq_toList] at hpb
                    generalize s.extract k (k + 4) = x at hsl hpb
                    clear hm HQ HN HS
                    go_wp2_with fail
                    go_round
                    case rel => exact ⟨3, by omega, by omega, rfl, Or.inl ⟨rfl, rfl, rfl, HQ1⟩⟩
                    case measure => simp [intOf]
                · have HQ1 : Hid (∀ q, q < (3 : Int).toNat → ¬ entq q <+: L.drop k) := fun q hq => by
                    rcases (by omega : q < 2 ∨ q = 2) with h | rfl
                    · exact HQ.out q (by omega)
                    · intro hm
                      have h1 := hm.length_le
                      have h2 : L.length = s.size := by rw [← hL, Lib.size_eq]
                      simp [entq] at h1
                      omega
                  clear HQ HN HS
                  go_wp2_with fail
                  go_round
                  case rel => exact ⟨3, by omega, by omega, rfl, Or.inl ⟨rfl, rfl, rfl, HQ1⟩⟩
                  case measure => simp [intOf]
              · by_cases hf : k + 6 ≤ s.size
                · have hsl : ∀ W : World, (Instr.slice 9 (.string s) (some (.int .i64 (k : Int))) (some (.int .i64 ((k : Int) + 6))) none).run Tryd.prog W = .ok (.string (s.extract k (k + 6))) W := fun W => by
                    have := run_slice_string (P := Tryd.prog) W 9 s .i64 .i64 (k : Int) ((k : Int) + 6) Tryd.underlying9 (by omega) (by omega) (by omega)
                    rw [show ((k : Int) + 6).toNat = k + 6 by omega] at this
                    simpa using this
                  have hpb := piece_beq s k 6 (entq 3) rfl hf
                  rw [hL] at hpb
                  by_cases hm : entq 3 <+: L.drop k
                  · have m1 : (ByteArray.mk pre.toArray ++ ByteArray.mk #[39]) = ByteArray.mk (pre ++ [39]).toArray := cat_mk pre [39]
                    have HG : Hid (un L = (un (L.drop (k + 6))).map fun t => (pre ++ [39]) ++ t) := HS.out 3 hm
                    rw [decide_eq_true hm] at hpb
                    change (_ == ByteArray.mk [38, 97, 112, 111, 115, 59].toArray) = true at hpb
                    rw [beq_toList] at hpb
                    generalize s.extract k (k + 6) = x at hsl hpb
                    clear hm HQ HN HS
                    go_wp2_with fail
                    go_round
                    case rel => exact ⟨4, by omega, by omega, rfl, Or.inr ⟨rfl, k + 6, pre ++ [39], by omega, hf, by simp; omega, by go_num, rfl, HG⟩⟩
                    case measure => simp [intOf]
                  · have HQ1 : Hid (∀ q, q < (4 : Int).toNat → ¬ entq q <+: L.drop k) := fun q hq => by
                      rcases (by omega : q < 3 ∨ q = 3) with h | rfl
                      · exact HQ.out q (by omega)
                      · exact hm
                    rw [decide_eq_false hm] at hpb
                    change (_ == ByteArray.mk [38, 97, 112, 111, 115, 59].toArray) = false at hpb
                    rw [beq_toList] at hpb
                    generalize s.extract k (k + 6) = x at hsl hpb
                    clear hm HQ HN HS
                    go_wp2_with fail
                    go_round
                    case rel => exact ⟨4, by omega, by omega, rfl, Or.inl ⟨rfl, rfl, rfl, HQ1⟩⟩
                    case measure => simp [intOf]
                · have HQ1 : Hid (∀ q, q < (4 : Int).toNat → ¬ entq q <+: L.drop k) := fun q hq => by
                    rcases (by omega : q < 3 ∨ q = 3) with h | rfl
                    · exact HQ.out q (by omega)
                    · intro hm
                      have h1 := hm.length_le
                      have h2 : L.length = s.size := by rw [← hL, Lib.size_eq]
                      simp [entq] at h1
                      omega
                  clear HQ HN HS
                  go_wp2_with fail
                  go_round
                  case rel => exact ⟨4, by omega, by omega, rfl, Or.inl ⟨rfl, rfl, rfl, HQ1⟩⟩
                  case measure => simp [intOf]
              · by_cases hf : k + 6 ≤ s.size
                · have hsl : ∀ W : World, (Instr.slice 9 (.string s) (some (.int .i64 (k : Int))) (some (.int .i64 ((k : Int) + 6))) none).run Tryd.prog W = .ok (.string (s.extract k (k + 6))) W := fun W => by
                    have := run_slice_string (P := Tryd.prog) W 9 s .i64 .i64 (k : Int) ((k : Int) + 6) Tryd.underlying9 (by omega) (by omega) (by omega)
                    rw [show ((k : Int) + 6).toNat = k + 6 by omega] at this
                    simpa using this
                  have hpb := piece_beq s k 6 (entq 4) rfl hf
                  rw [hL] at hpb
                  by_cases hm : entq 4 <+: L.drop k
                  · have m1 : (ByteArray.mk pre.toArray ++ ByteArray.mk #[34]) = ByteArray.mk (pre ++ [34]).toArray := cat_mk pre [34]
                    have HG : Hid (un L = (un (L.drop (k + 6))).map fun t => (pre ++ [34]) ++ t) := HS.out 4 hm
                    rw [decide_eq_true hm] at hpb
                    change (_ == ByteArray.mk [38, 113, 117, 111, 116, 59].toArray) = true at hpb
                    rw [beq_toList] at hpb
                    generalize s.extract k (k + 6) = x at hsl hpb
                    clear hm HQ HN HS
                    go_wp2_with fail
                    go_round
                    case rel => exact ⟨5, by omega, by omega, rfl, Or.inr ⟨rfl, k + 6, pre ++ [34], by omega, hf, by simp; omega, by go_num, rfl, HG⟩⟩
                    case measure => simp [intOf]
                  · have HQ1 : Hid (∀ q, q < (5 : Int).toNat → ¬ entq q <+: L.drop k) := fun q hq => by
                      rcases (by omega : q < 4 ∨ q = 4) with h | rfl
                      · exact HQ.out q (by omega)
                      · exact hm
                    rw [decide_eq_false hm] at hpb
                    change (_ == ByteArray.mk [38, 113, 117, 111, 116, 59].toArray) = false at hpb
                    rw [beq_toList] at hpb
                    generalize s.extract k (k + 6) = x at hsl hpb
                    clear hm HQ HN HS
                    go_wp2_with fail
                    go_round
                    case rel => exact ⟨5, by omega, by omega, rfl, Or.inl ⟨rfl, rfl, rfl, HQ1⟩⟩
                    case measure => simp [intOf]
                · have HQ1 : Hid (∀ q, q < (5 : Int).toNat → ¬ entq q <+: L.drop k) := fun q hq => by
                    rcases (by omega : q < 4 ∨ q = 4) with h | rfl
                    · exact HQ.out q (by omega)
                    · intro hm
                      have h1 := hm.length_le
                      have h2 : L.length = s.size := by rw [← hL, Lib.size_eq]
                      simp [entq] at h1
                      omega
                  clear HQ HN HS
                  go_wp2_with fail
                  go_round
                  case rel => exact ⟨5, by omega, by omega, rfl, Or.inl ⟨rfl, rfl, rfl, HQ1⟩⟩
                  case measure => simp [intOf]
              · have HF : Hid (un L = none) := HN.out HQ.out
                clear HQ HN HS
                go_wp2_with fail
                go_ret2
                exact ⟨by rw [HF.out]; rfl, by first | exact HB.out | (rw [hB0]; exact HB.out)⟩
            · clear HN HS
              have hj : j < 5 ∨ j = 5 := by omega
              rcases hj with hj | rfl
              · go_wp2_with fail
                go_round
                case rel => exact ⟨k1, pre1, hk1s, hpl1, rfl, rfl, HC1⟩
                case measure => simp [intOf]; omega
              · go_wp2_with fail
                go_round
                case rel => exact ⟨k1, pre1, hk1s, hpl1, rfl, rfl, HC1⟩
                case measure => simp [intOf]; omega
        · have e38 : ((s[k].toNat : Int) != 38) = true := by rw [bne_iff_ne]; omega
          have hsl : ∀ W : World, (Instr.slice 9 (.string s) (some (.int .i64 (k : Int))) (some (.int .i64 ((k : Int) + 1))) none).run Tryd.prog W = .ok (.string ⟨#[s[k]]⟩) W := fun W => by
            have := run_slice_string (P := Tryd.prog) W 9 s .i64 .i64 (k : Int) ((k : Int) + 1) Tryd.underlying9 (by omega) (by omega) (by omega)
            rw [← hx]
            simpa using this
          have HG : Hid (un L = (un (L.drop (k + 1))).map fun t => (pre ++ [s[k]]) ++ t) := by
            show _ = _
            refine un_step L pre k [s[k]] _ HC.out ?_
            rw [hdr, un_plain _ _ (fun h => h38 (by rw [h]; rfl)) (fun h => h60 (by rw [h]; rfl))]
            rfl
          have m1 : (ByteArray.mk pre.toArray ++ ByteArray.mk #[s[k]]) = ByteArray.mk (pre ++ [s[k]]).toArray := cat_mk pre [s[k]]
          clear hdr hx HC
          go_wp2_with fail
          go_round
          case rel => exact ⟨k + 1, pre ++ [s[k]], by omega, by simp; omega, by go_num, rfl, HG⟩
          case measure => simp [intOf]; omega
    · have HF : Hid (un L = some pre) := by
        show _ = _
        rw [HC.out, List.drop_eq_nil_of_le (by rw [← hL, ← Lib.size_eq]; omega), un_nil]
        simp
      clear HC
      go_wp2_with fail
      go_ret2
      exact ⟨by rw [HF.out]; rfl, by first | exact HB.out | (rw [hB0]; exact HB.out)⟩
end Go.Proofs.YtmfeojhphdmodaaDoor
