/- The tokens of the text that 'known' asks, one by one; 'skip' at ASCII texts. -/
import Derived.Test.YtmfnkilohicapaaGreatDoorEa
import Derived.Lib.OthersKept
namespace Go.Proofs.YtmfnkilohicapaaGreatDoor
open Go.RowKit

set_option maxHeartbeats 8000000 in
set_option maxRecDepth 100000 in
theorem lex_one_qtext (s : ByteArray) (hs : s.size ≤ 140737488351232) (t : List UInt8) (hq : QText s t) (w : World) (hT : Laid w) :
    Calls Tryz.prog 26 #[.string s] w fun e w' => e = .returned (.tuple #[tok 4 ⟨t.toArray⟩, .int .i64 (t.length + 2 : Nat)]) ∧ Below w.heap.size w w' := by
  obtain ⟨h1, hq0⟩ := at_list hq.q0
  have h1' : (0 : Int) < (s.size : Int) := by omega
  obtain ⟨c, hc0⟩ : ∃ c, s[0] = c := ⟨_, rfl⟩
  rw [hc0] at hq0
  have hc : (c.toNat : Int) = 34 := by rw [hq0]; rfl
  have hl : isLet c = false := (Bool.not_eq_true _).mp (fun h2 => by rw [isLet_iff] at h2; omega)
  have hd : isDig c = false := (Bool.not_eq_true _).mp (fun h2 => by rw [isDig_iff] at h2; omega)
  have hp : ((c.toNat : Int) == 46) = false := beq_eq_false_iff_ne.2 (by omega)
  have hq4 : ((c.toNat : Int) == 34) = true := by rw [hc]; rfl
  have Hl := Lib.hid hl
  have Hd := Lib.hid hd
  have HT := Lib.hid hT
  have HQ := Lib.hid hq
  clear hl hd hT hc hq0 hq
  go_enter Tryz.func26, Tryz.ntmps26
  have hB : Below w.heap.size w (w.alloc (.cells #[.int .i64 0, .string ⟨#[]⟩, .int .i64 0] 64)) := (Below.refl _ _).alloc (Nat.le_refl _) _
  have c0 := cell_only w #[.int .i64 0, .string ⟨#[]⟩, .int .i64 0] 64 0 _ rfl
  have c1 := cell_only w #[.int .i64 0, .string ⟨#[]⟩, .int .i64 0] 64 1 _ rfl
  have c2 := cell_only w #[.int .i64 0, .string ⟨#[]⟩, .int .i64 0] 64 2 _ rfl
  have fz := frozen_new w 64 #[.int .i64 0, .string ⟨#[]⟩, .int .i64 0]
  have hlw0 : w.heap.size < (w.alloc (.cells #[.int .i64 0, .string ⟨#[]⟩, .int .i64 0] 64)).heap.size := by rw [World.size_alloc]; omega
  have HB := Lib.hid hB
  clear hB
  go_upto_region 2 with fail
  obtain ⟨wq, hwq⟩ : ∃ wq, w.alloc (.cells #[.int .i64 0, .string ⟨#[]⟩, .int .i64 0] 64) = wq := ⟨_, rfl⟩
  rw [hwq] at HB c0 c1 c2 fz hlw0 ⊢
  clear hwq
  have HTq := Lib.hid (HT.out.below HB.out)
  go_upto_region 15 with (first
    | (go_at_call 44; refine (lex_letter _ _).mono ?_; rintro e w' ⟨rfl, rfl⟩; rw [Hl.out])
    | (go_at_call 37; refine (lex_digit _ _).mono ?_; rintro e w' ⟨rfl, rfl⟩; rw [Hd.out])
    | (go_at_call 47; refine (lex_quoted_plain s hs t HQ.out _ HTq.out).mono ?_; rintro e w1 ⟨rfl, hb1⟩))
  have c0' := (hb1.cell (p := ⟨w.heap.size, 0, none⟩) hlw0).trans c0
  have c1' := (hb1.cell (p := ⟨w.heap.size, 1, none⟩) hlw0).trans c1
  have c2' := (hb1.cell (p := ⟨w.heap.size, 2, none⟩) hlw0).trans c2
  have f0 := (hb1.frozen (p := ⟨w.heap.size, 0, none⟩) hlw0).trans (fz 0)
  have f1 := (hb1.frozen (p := ⟨w.heap.size, 1, none⟩) hlw0).trans (fz 1)
  have f2 := (hb1.frozen (p := ⟨w.heap.size, 2, none⟩) hlw0).trans (fz 2)
  have HBW := Lib.hid (HB.out.trans (hb1.mono HB.out.size))
  have hlw : w.heap.size < w1.heap.size := Nat.lt_of_lt_of_le hlw0 hb1.size
  clear c0 c1 c2 fz hb1
  go_wp2
  refine bodyPost_ret (v := .tuple #[tok 4 ⟨t.toArray⟩, .int .i64 (t.length + 2 : Nat)]) ?_ rfl ⟨rfl, ?_⟩
  · simp [results, Tryz.results26, go_sem, tok, c0', c1', c2']
  · exact ((HBW.out.setCell (p := ⟨w.heap.size, 0, none⟩) (Nat.le_refl _) _).setCell (p := ⟨w.heap.size, 1, none⟩) (Nat.le_refl _) _).setCell (p := ⟨w.heap.size, 2, none⟩) (Nat.le_refl _) _
/-- How many bytes of blanks and remarks. -/
def skN : List UInt8 → Bool → Nat
  | [], _ => 0
  | c :: r, rem => if c = 10 then skN r false + 1 else if (rem || c == 32 || c == 9 || c == 13) then skN r rem + 1 else if c = 35 then skN r true + 1 else 0
/-- The text that 'known' asks. -/
def kL : List UInt8 := [97, 58, 98, 123, 120, 61, 126, 34, 99, 46, 42, 34, 125, 91, 53, 109, 93, 32, 62, 32, 49, 46, 53, 101, 51, 32, 35, 32, 101, 110, 100]
def kS : ByteArray := ⟨kL.toArray⟩
def kP : List Nat := [0, 3, 4, 5, 7, 12, 13, 14, 16, 18, 20, 31]
def kN : List Nat := [3, 1, 1, 2, 5, 1, 1, 2, 1, 1, 5]
def kK : List Int := [1, 5, 1, 5, 4, 5, 5, 3, 5, 5, 2]
def kT : List (List UInt8) := [[97, 58, 98], [123], [120], [61, 126], [99, 46, 42], [125], [91], [53, 109], [93], [62], [49, 46, 53, 101, 51]]
def OneIs (p n : Nat) (k : Int) (t : List UInt8) : Prop := ∀ w, Laid w → Calls Tryz.prog 26 #[.string (kS.extract p 31)] w fun e w' => e = .returned (.tuple #[tok k ⟨t.toArray⟩, .int .i64 n]) ∧ Below w.heap.size w w'
def kAt (p : Nat) : ByteArray := ⟨(kL.drop p).toArray⟩
theorem kAt_eq (p : Nat) : kS.extract p 31 = kAt p := by
  apply ByteArray.ext
  apply Array.toList_inj.1
  show (kS.extract p 31).data.toList = kL.drop p
  rw [ByteArray.data_extract, Array.toList_extract]
  show (kL.drop p).take (31 - p) = kL.drop p
  rw [List.take_of_length_le]
  rw [List.length_drop]
  have : kL.length = 31 := rfl
  omega
theorem kAt_list (p : Nat) : (kAt p).data.toList = kL.drop p := rfl
theorem kAt_size (p : Nat) : (kAt p).size ≤ 31 := by
  show (kL.drop p).toArray.size ≤ 31
  simp [kL]
theorem kAt_pos {p : Nat} (h : p < 31) : 0 < (kAt p).size := by
  show 0 < (kL.drop p).toArray.size
  rw [List.size_toArray, List.length_drop]
  have : kL.length = 31 := rfl
  omega
theorem one_letter {p n : Nat} {t : List UInt8} (h1 : 0 < (kAt p).size) (hc : isLet (kAt p)[0] = true) (hn : rl isIdc (kL.drop p) = n) (ht : (kAt p).extract 0 n = ⟨t.toArray⟩) : OneIs p n 1 t := by
  intro w _
  rw [kAt_eq]
  have h := lex_one_letter (kAt p) h1 (by have := kAt_size p; omega) hc w
  rw [kAt_list, hn, ht] at h
  exact h
theorem one_sign {p n : Nat} {t : List UInt8} (h1 : 0 < (kAt p).size) (hc : plainByte (kAt p)[0] = true) (hr : signRes (kL.drop p) = .tuple #[tok 5 ⟨t.toArray⟩, .int .i64 n]) : OneIs p n 5 t := by
  intro w _
  rw [kAt_eq]
  have h := lex_one_sign (kAt p) h1 (by have := kAt_size p; omega) hc w
  rw [kAt_list, hr] at h
  exact h
theorem one_num {p n : Nat} {k : Int} {t : List UInt8} (h1 : 0 < (kAt p).size) (hc : isLet (kAt p)[0] = false) (hd : isDig (kAt p)[0] = true) (hn : numEnd (kL.drop p) = n) (hk : numKind (kL.drop p) = k) (hw : wordAt (kL.drop p) n = false) (ht : (kAt p).extract 0 n = ⟨t.toArray⟩) : OneIs p n k t := by
  intro w _
  rw [kAt_eq]
  have h := lex_one_num (kAt p) h1 (by have := kAt_size p; omega) hc (Or.inl hd) w
  rw [kAt_list, hn, hk, hw, if_neg (by decide), ht] at h
  exact h
theorem one_quote {p : Nat} {t : List UInt8} (hq : QText (kAt p) t) : OneIs p (t.length + 2) 4 t := by
  intro w hT
  rw [kAt_eq]
  exact lex_one_qtext (kAt p) (by have := kAt_size p; omega) t hq w hT
theorem quote7 : QText (kAt 7) [99, 46, 42] := by
  refine ⟨by kernel_rfl, fun k c h => ?_, by decide, by kernel_rfl⟩
  match k, h with
  | 0, h => exact (show (kAt 7).data.toList[1 + 0]? = some 99 by kernel_rfl).trans h
  | 1, h => exact (show (kAt 7).data.toList[1 + 1]? = some 46 by kernel_rfl).trans h
  | 2, h => exact (show (kAt 7).data.toList[1 + 2]? = some 42 by kernel_rfl).trans h
theorem known_one (j : Nat) (hj : j < 11) : OneIs (kP.getD j 0) (kN.getD j 0) (kK.getD j 0) (kT.getD j []) := by
  rcases (by omega : j = 0 ∨ j = 1 ∨ j = 2 ∨ j = 3 ∨ j = 4 ∨ j = 5 ∨ j = 6 ∨ j = 7 ∨ j = 8 ∨ j = 9 ∨ j = 10) with rfl | rfl | rfl | rfl | rfl | rfl | rfl | rfl | rfl | rfl | rfl
  · exact one_letter (p := 0) (n := 3) (t := [97, 58, 98]) (kAt_pos (by decide)) (by kernel_rfl) (by kernel_rfl) (by kernel_rfl)
  · exact one_sign (p := 3) (n := 1) (t := [123]) (kAt_pos (by decide)) (by kernel_rfl) (by kernel_rfl)
  · exact one_letter (p := 4) (n := 1) (t := [120]) (kAt_pos (by decide)) (by kernel_rfl) (by kernel_rfl) (by kernel_rfl)
  · exact one_sign (p := 5) (n := 2) (t := [61, 126]) (kAt_pos (by decide)) (by kernel_rfl) (by kernel_rfl)
  · exact one_quote (p := 7) (t := [99, 46, 42]) quote7
  · exact one_sign (p := 12) (n := 1) (t := [125]) (kAt_pos (by decide)) (by kernel_rfl) (by kernel_rfl)
  · exact one_sign (p := 13) (n := 1) (t := [91]) (kAt_pos (by decide)) (by kernel_rfl) (by kernel_rfl)
  · exact one_num (p := 14) (n := 2) (k := 3) (t := [53, 109]) (kAt_pos (by decide)) (by kernel_rfl) (by kernel_rfl) (by kernel_rfl) (by kernel_rfl) (by kernel_rfl) (by kernel_rfl)
  · exact one_sign (p := 16) (n := 1) (t := [93]) (kAt_pos (by decide)) (by kernel_rfl) (by kernel_rfl)
  · exact one_sign (p := 18) (n := 1) (t := [62]) (kAt_pos (by decide)) (by kernel_rfl) (by kernel_rfl)
  · exact one_num (p := 20) (n := 5) (k := 2) (t := [49, 46, 53, 101, 51]) (kAt_pos (by decide)) (by kernel_rfl) (by kernel_rfl) (by kernel_rfl) (by kernel_rfl) (by kernel_rfl) (by kernel_rfl)
end Go.Proofs.YtmfnkilohicapaaGreatDoor

/- 'skip' at ASCII texts. -/
namespace Go.Proofs.YtmfnkilohicapaaGreatDoor
open Go.RowKit

theorem iterPos_at {w : World} {k : Nat} {s : ByteArray} {pos : Nat} (h : w.heap[k]? = some (.stringIter s pos)) : w.iterPos k = pos := by
  simp [World.iterPos, h]
theorem below_iter' (s : ByteArray) (pos : Nat) (w : World) : Below w.heap.size w (w.iter s pos) := (Below.refl _ _).alloc (Nat.le_refl _) _
theorem ret_sk {a b : Int} (h : a = b) : Ending.returned (.int .i64 a) = .returned (.int .i64 b) := by rw [h]
theorem skN_cons (c : UInt8) (r : List UInt8) (rem : Bool) : skN (c :: r) rem = if c = 10 then skN r false + 1 else if (rem || c == 32 || c == 9 || c == 13) then skN r rem + 1 else if c = 35 then skN r true + 1 else 0 := rfl
theorem beq_num {c : UInt8} {n : Nat} (hn : n < 256) : (c == n.toUInt8) = ((c.toNat : Int) == (n : Int)) := by
  rw [Bool.eq_iff_iff, beq_iff_eq, beq_iff_eq]
  refine ⟨fun h => ?_, fun h => byte_num hn h⟩
  rw [h]
  show ((n % 256 : Nat) : Int) = n
  omega
set_option maxHeartbeats 8000000 in
set_option maxRecDepth 100000 in
theorem lex_skip (s : ByteArray) (hs : s.size ≤ 140737488351232) (hasc : ∀ c ∈ s.data.toList, c.toNat < 128) (p : Nat) (hp : p ≤ s.size) (w : World) :
    Calls Tryz.prog 43 #[.string s, .int .i64 p] w fun e w' => e = .returned (.int .i64 (p + skN (s.data.toList.drop p) false : Nat)) ∧ Below w.heap.size w w' := by
  obtain ⟨T, hT⟩ : ∃ T, s.extract p s.size = T := ⟨_, rfl⟩
  have hTs : T.size = s.size - p := by rw [← hT, ByteArray.size_extract]; omega
  have hTl : T.data.toList = s.data.toList.drop p := by
    rw [← hT, ByteArray.data_extract, Array.toList_extract]
    show (s.data.toList.drop p).take (s.size - p) = _
    rw [List.take_of_length_le (by rw [List.length_drop, ← size_len]; omega)]
  have hTa : ∀ c ∈ T.data.toList, c.toNat < 128 := fun c hc => hasc c (List.mem_of_mem_drop (by rw [hTl] at hc; exact hc))
  obtain ⟨K, hK⟩ : ∃ K, skN T.data.toList false = K := ⟨_, rfl⟩
  rw [← hTl, hK]
  have HK : Hid (skN (T.data.toList.drop 0) false + 0 = K) := hK
  have HTs := Lib.hid hTs
  have HTa := Lib.hid hTa
  have HTx := Lib.hid hT
  have hp' : (p : Int) ≤ (s.size : Int) := by omega
  clear hK hTs hTl hTa
  go_enter Tryz.func43, Tryz.ntmps43
  go_wp2
  have HIt := Lib.hid (World.iter_heap w T 0)
  have HBt := Lib.hid ((Below.refl w.heap.size w).trans ((below_iter' T 0 w)))
  obtain ⟨k, hk⟩ : ∃ k, w.heap.size = k := ⟨_, rfl⟩
  have hk4 : w.heap.size ≤ k := by omega
  rw [hk] at HIt ⊢
  have Hk := Lib.hid hk
  clear hk hT
  go_loopw [5, 6, 7] (fun v5 _ _ wr => ∃ (pos : Nat) (rem : Bool), pos ≤ T.size ∧ v5 = .bool rem ∧ Hid (skN (T.data.toList.drop pos) rem + pos = K) ∧ Hid (wr.heap[k]? = some (.stringIter T pos)) ∧ Hid (Below w.heap.size w wr)) (fun _ _ _ wr => T.size - wr.iterPos k)
  case atStart => exact ⟨0, false, by omega, rfl, HK, HIt, HBt⟩
  case round =>
    clear HIt HBt HK
    obtain ⟨pos, rem, hpos, rfl, HK, HIt, HBt⟩ := hrel
    have hpos0 := Lib.hid (iterPos_at HIt.out)
    by_cases hlt : pos < T.size
    · obtain ⟨c, hc⟩ : ∃ c, T[pos] = c := ⟨_, rfl⟩
      have hasc2 := HTa.out c (by rw [← hc]; exact List.mem_of_getElem? (get_list T pos hlt))
      have hnx : ∀ ty, (Instr.next (.pointer (some ⟨k, 0, none⟩)) true ty).run Tryz.prog wr = _ := fun ty => Lib.run_next_ascii_at wr k T pos ty HIt.out hlt (by rw [hc]; exact hasc2)
      have hit2 := Lib.hid (Lib.iterAt_heap wr k T pos (pos + 1) HIt.out)
      have hbw2 := Lib.hid (Lib.below_iterAt HBt.out (k := k) hk4 T (pos + 1))
      have hdrop : T.data.toList.drop pos = c :: T.data.toList.drop (pos + 1) := by
        rw [← hc]
        exact List.drop_eq_getElem_cons (by simpa using hlt)
      have hK2 := HK.out
      rw [hdrop, skN_cons] at hK2
      have b32 : (c == 32) = ((c.toNat : Int) == 32) := beq_num (n := 32) (by decide)
      have b9 : (c == 9) = ((c.toNat : Int) == 9) := beq_num (n := 9) (by decide)
      have b13 : (c == 13) = ((c.toNat : Int) == 13) := beq_num (n := 13) (by decide)
      rw [b32, b9, b13] at hK2
      rw [hc] at hnx
      obtain ⟨W1, hW1⟩ : ∃ W1, wr.iterAt k T (pos + 1) = W1 := ⟨_, rfl⟩
      rw [hW1] at hnx hit2 hbw2
      have hb10 : c = 10 ↔ ((c.toNat : Int) == 10) = true := by rw [beq_iff_eq]; exact ⟨fun h => by rw [h]; rfl, fun h => byte_num (n := 10) (by decide) h⟩
      have hb35 : c = 35 ↔ ((c.toNat : Int) == 35) = true := by rw [beq_iff_eq]; exact ⟨fun h => by rw [h]; rfl, fun h => byte_num (n := 35) (by decide) h⟩
      have HK2 := Lib.hid hK2
      have Hb10 := Lib.hid hb10
      have Hb35 := Lib.hid hb35
      clear hK2 hb10 hb35 b32 b9 b13 hdrop hc hW1
      cases e10 : ((c.toNat : Int) == 10)
      · have n10 : ¬ c = 10 := fun h => by rw [Hb10.out.1 h] at e10; cases e10
        have hK3 := HK2.out
        rw [if_neg n10] at hK3
        cases hb : (rem || ((c.toNat : Int) == 32) || ((c.toNat : Int) == 9) || ((c.toNat : Int) == 13))
        · rw [hb, if_neg (by decide)] at hK3
          cases rem
          · have hb' := hb
            simp only [Bool.false_or, Bool.or_eq_false_iff] at hb'
            obtain ⟨⟨f1, f2⟩, f3⟩ := hb'
            have HK3 := Lib.hid hK3
            have N10 := Lib.hid n10
            clear hK3 hb n10
            cases e35 : ((c.toNat : Int) == 35)
            · have n35 : ¬ c = 35 := fun h => by rw [Hb35.out.1 h] at e35; cases e35
              have HK4 : Hid (0 + pos = K) := by have := HK3.out; rw [if_neg n35] at this; exact this
              have hsum : (p : Int) + (pos : Int) ≤ 140737488351232 := by have := HTs.out; omega
              clear n35
              go_wp2
              go_ret
              exact ⟨ret_sk (by have := HK4.out; omega), hbw2.out⟩
            · have y35 : c = 35 := Hb35.out.2 e35
              have HK4 : Hid (skN (T.data.toList.drop (pos + 1)) true + 1 + pos = K) := by have := HK3.out; rw [if_pos y35] at this; exact this
              clear y35
              go_wp2
              go_roundw
              case rel => exact ⟨pos + 1, true, by omega, rfl, Lib.hid (by have := HK4.out; omega), hit2, hbw2⟩
              case measure => (rw [iterPos_at hit2.out, hpos0.out]; omega)
          · rw [Bool.true_or, Bool.true_or, Bool.true_or] at hb; cases hb
        · rw [hb, if_pos rfl] at hK3
          have HK3 := Lib.hid hK3
          clear hK3 n10
          cases rem
          · cases f1 : ((c.toNat : Int) == 32)
            · cases f2 : ((c.toNat : Int) == 9)
              · have f3 : ((c.toNat : Int) == 13) = true := by rw [f1, f2] at hb; exact hb
                clear hb
                go_wp2
                go_roundw
                case rel => exact ⟨pos + 1, false, by omega, rfl, Lib.hid (by have := HK3.out; omega), hit2, hbw2⟩
                case measure => (rw [iterPos_at hit2.out, hpos0.out]; omega)
              · clear hb
                go_wp2
                go_roundw
                case rel => exact ⟨pos + 1, false, by omega, rfl, Lib.hid (by have := HK3.out; omega), hit2, hbw2⟩
                case measure => (rw [iterPos_at hit2.out, hpos0.out]; omega)
            · clear hb
              go_wp2
              go_roundw
              case rel => exact ⟨pos + 1, false, by omega, rfl, Lib.hid (by have := HK3.out; omega), hit2, hbw2⟩
              case measure => (rw [iterPos_at hit2.out, hpos0.out]; omega)
          · clear hb
            go_wp2
            go_roundw
            case rel => exact ⟨pos + 1, true, by omega, rfl, Lib.hid (by have := HK3.out; omega), hit2, hbw2⟩
            case measure => (rw [iterPos_at hit2.out, hpos0.out]; omega)
      · have y10 : c = 10 := Hb10.out.2 e10
        have HK4 : Hid (skN (T.data.toList.drop (pos + 1)) false + 1 + pos = K) := by have := HK2.out; rw [if_pos y10] at this; exact this
        clear y10
        go_wp2
        go_roundw
        case rel => exact ⟨pos + 1, false, by omega, rfl, Lib.hid (by have := HK4.out; omega), hit2, hbw2⟩
        case measure => (rw [iterPos_at hit2.out, hpos0.out]; omega)
    · obtain rfl : pos = T.size := by omega
      have hnx : ∀ ty, (Instr.next (.pointer (some ⟨k, 0, none⟩)) true ty).run Tryz.prog wr = _ := fun ty => Lib.run_next_end_at wr k T T.size ty HIt.out (by omega)
      have HK4 : Hid (T.size = K) := by
        have := HK.out
        rw [List.drop_of_length_le (by rw [← size_len]; omega)] at this
        have h0 : skN [] rem = 0 := rfl
        rw [h0] at this
        exact Lib.hid (by omega)
      go_wp2
      go_ret
      exact ⟨ret_sk (by have := HTs.out; have := HK4.out; omega), HBt.out⟩
end Go.Proofs.YtmfnkilohicapaaGreatDoor
