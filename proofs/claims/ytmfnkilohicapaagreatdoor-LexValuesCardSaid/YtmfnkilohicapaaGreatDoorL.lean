/- Two hexadecimal digits read by strconv.ParseUint; package lex's 'escape': whatever they answer, they answer. -/
import Derived.Test.YtmfnkilohicapaaGreatDoorJ
import Derived.Lib.ConvBytes
import Derived.Lib.AtoiAllMem
namespace Go.Proofs.YtmfnkilohicapaaGreatDoor
open Go.RowKit

theorem sc_lower (c : Int) (w : World) : Calls Tryz.prog 122 #[.int .u8 c] w fun e w' => e = .returned (.int .u8 (bits .or .u8 c 32)) ∧ w = w' := by
  go_enter Tryz.func122, Tryz.ntmps122
  go_wp2
  go_ret
  exact ⟨rfl, rfl⟩
theorem lower_hex (c : UInt8) (h : isHex c = true) (hd : ¬ ((c.toNat : Int) ≤ 57)) : ∃ l : Int, bits .or .u8 (c.toNat : Int) 32 = l ∧ 97 ≤ l ∧ l ≤ 102 := by
  have h1 := (isHex_iff c).1 h
  have h2 : c.toNat = 97 ∨ c.toNat = 98 ∨ c.toNat = 99 ∨ c.toNat = 100 ∨ c.toNat = 101 ∨ c.toNat = 102 ∨ c.toNat = 65 ∨ c.toNat = 66 ∨ c.toNat = 67 ∨ c.toNat = 68 ∨ c.toNat = 69 ∨ c.toNat = 70 := by omega
  rcases h2 with h | h | h | h | h | h | h | h | h | h | h | h <;> rw [h] <;> exact ⟨_, rfl, by decide, by decide⟩

set_option maxHeartbeats 8000000 in
set_option maxRecDepth 100000 in
theorem isc_ParseUint_hex (t : ByteArray) (hn : t.size = 2) (hx : ∀ k (h : k < t.size), isHex t[k] = true) (w : World) :
    Calls Tryz.prog 115 #[.string t, .int .i64 16, .int .i64 8] w fun e w' => ∃ n : Int, 0 ≤ n ∧ n ≤ 255 ∧ e = .returned (.tuple #[.int .u64 n, .nilIface]) ∧ Below w.heap.size w w' := by
  have hne : t.size ≠ 0 := by omega
  have hemp : t.toList.isEmpty = false := by
    rw [← decide_eq_emptyBytes]
    exact decide_eq_false (fun h => hne (by rw [h]; rfl))
  have hcv := Lib.run_convert_string_bytes (P := Tryz.prog) w 9 49 5 t (u := .string) Tryz.underlying9 Tryz.underlying49 Tryz.underlying5
  have hB : ∀ j, j < t.size → (Lib.bytesWorld w 5 t).cell? ⟨w.heap.size, j, none⟩ = some (.int .u8 (t.data.toList.getD j 0).toNat) := fun j hj => Lib.bytesWorld_cell w 5 t j hj
  have hbw : Below w.heap.size w (Lib.bytesWorld w 5 t) := by
    unfold Lib.bytesWorld
    exact Lib.below_freeze ((Below.refl _ _).drew.alloc (Nat.le_refl _) _) (p := ⟨w.heap.size, _, none⟩) (Nat.le_refl _) _
  obtain ⟨W1, hW1⟩ : ∃ W1, W1 = Lib.bytesWorld w 5 t := ⟨_, rfl⟩
  rw [← hW1] at hcv hB hbw
  clear hW1
  have HB := Lib.hid hB
  have Hbw := Lib.hid hbw
  have Hx := Lib.hid hx
  clear hB hbw hx
  have hmv : IntKind.u64.wrap (IntKind.u64.wrap 256 - 1) = 255 := by
    rw [IntKind.wrap_u64, IntKind.wrap_u64]
    decide
  go_enter Tryz.func115, Tryz.ntmps115
  go_wp2
  go_loop [12, 13, 101] (fun vu vn vi => ∃ (k : Nat) (a : Int), vu = .bool false ∧ vn = .int .u64 a ∧ vi = .int .i64 k ∧ k ≤ 2 ∧ 0 ≤ a ∧ a ≤ 255 ∧ Hid ((k = 0 → a = 0) ∧ (k = 1 → a ≤ 15)))
    (fun _ _ vi => 2 - (intOf vi).toNat)
  case atStart => exact ⟨0, 0, rfl, rfl, rfl, by omega, by omega, by omega, fun _ => rfl, fun h => by omega⟩
  case round =>
    obtain ⟨k, a, rfl, rfl, rfl, hk, ha0, ha1, HA⟩ := hrel
    by_cases hk2 : k < 2
    · have hks : k < t.size := by omega
      have hc0 := HB.out k hks
      have hxk := Hx.out k hks
      have hget : t.data.toList.getD k 0 = t[k] := by rw [List.getD, get_list t k hks]; rfl
      rw [hget] at hc0
      obtain ⟨c, hc⟩ : ∃ c, t[k] = c := ⟨_, rfl⟩
      rw [hc] at hc0 hxk
      have ha2 : a ≤ 15 := by
        have := HA.out
        rcases (show k = 0 ∨ k = 1 by omega) with h | h
        · have := this.1 h; omega
        · exact this.2 h
      have hk3 : (k : Int) < 2 := by omega
      have h16 : 0 ≤ a * 16 := by omega
      have hic := (isHex_iff c).1 hxk
      clear hget hc
      by_cases hd : (c.toNat : Int) ≤ 57
      · have hd0 : 48 ≤ (c.toNat : Int) := by omega
        have h95 : ((c.toNat : Int) == 95) = false := beq_eq_false_iff_ne.2 (by omega)
        clear hic
        go_wp2
        all_goals
          go_round
          case rel => exact ⟨k + 1, a * 16 + ((c.toNat : Int) - 48), rfl, rfl, by go_num, by omega, by omega, by omega, fun h => by omega, fun h => by have := HA.out.1 (by omega); omega⟩
          case measure => (simp [intOf] <;> omega)
      · obtain ⟨l, hl, hl0, hl1⟩ := lower_hex c hxk hd
        have h95 : ((c.toNat : Int) == 95) = false := beq_eq_false_iff_ne.2 (by omega)
        have Hl := Lib.hid hl
        clear hic hxk hl
        go_wp2_with (go_at_call 122; refine (sc_lower _ _).mono ?_; rintro e w' ⟨rfl, rfl⟩; rw [Hl.out])
        all_goals
          go_round
          case rel => exact ⟨k + 1, a * 16 + (l - 97 + 10), rfl, rfl, by go_num, by omega, by omega, by omega, fun h => by omega, fun h => by have := HA.out.1 (by omega); omega⟩
          case measure => (simp [intOf] <;> omega)
    · have hk3 : ¬ (k : Int) < 2 := by omega
      go_wp2
      go_ret2
      exact ⟨a, ha0, ha1, rfl, Hbw.out⟩

theorem sc_ParseUint_hex (t : ByteArray) (hn : t.size = 2) (hx : ∀ k (h : k < t.size), isHex t[k] = true) (w : World) :
    Calls Tryz.prog 91 #[.string t, .int .i64 16, .int .i64 8] w fun e w' => ∃ n : Int, 0 ≤ n ∧ n ≤ 255 ∧ e = .returned (.tuple #[.int .u64 n, .nilIface]) ∧ Below w.heap.size w w' := by
  have Hx := Lib.hid hx
  have Hn := Lib.hid hn
  clear hx hn
  go_enter Tryz.func91, Tryz.ntmps91
  go_wp2_with (go_at_call 115; refine (isc_ParseUint_hex _ Hn.out Hx.out _).mono ?_; rintro e w' ⟨n, hn0, hn1, rfl, hb⟩)
  go_ret2
  exact ⟨n, hn0, hn1, rfl, hb⟩

/-- A result of a byte and how many bytes it took. -/
def ByteAnd (s : ByteArray) (e : Ending) : Prop := ∃ x k : Int, 0 ≤ x ∧ x ≤ 255 ∧ 0 ≤ k ∧ k ≤ s.size ∧ e = .returned (.tuple #[.int .u8 x, .int .i64 k])
theorem ByteAnd.mk {s : ByteArray} {x k : Int} (h0 : 0 ≤ x) (h1 : x ≤ 255) (h2 : 0 ≤ k) (h3 : k ≤ s.size) : ByteAnd s (.returned (.tuple #[.int .u8 x, .int .i64 k])) := ⟨x, k, h0, h1, h2, h3, rfl⟩
set_option maxHeartbeats 8000000 in
set_option maxRecDepth 100000 in
theorem lex_escape (s : ByteArray) (hs : s.size ≤ 140737488355328) (w : World) :
    Calls Tryz.prog 76 #[.string s] w fun e w' => ByteAnd s e ∧ Below w.heap.size w w' := by
  by_cases h0 : s.size = 0
  · have hemp : s.toList.isEmpty = true := by
      rw [Lib.toList_data]
      have : s.data.toList.length = 0 := by rw [← size_len]; exact h0
      rw [List.length_eq_zero_iff.1 this]; rfl
    have H0 := Lib.hid h0
    clear h0
    go_enter Tryz.func76, Tryz.ntmps76
    go_wp2
    go_ret2
    exact ⟨ByteAnd.mk (by omega) (by omega) (by omega) (by omega), Below.refl _ _⟩
  · have hemp : s.toList.isEmpty = false := by
      rw [← decide_eq_emptyBytes]
      exact decide_eq_false (fun h => h0 (by rw [h]; rfl))
    have h1 : 1 ≤ s.size := by omega
    have h1' : (0 : Int) < (s.size : Int) := by omega
    have h1n : 0 < s.size := by omega
    obtain ⟨c, hc⟩ : ∃ c, s[0] = c := ⟨_, rfl⟩
    have hc256 : (c.toNat : Int) ≤ 255 := by have := c.toNat_lt; omega
    clear h0
    by_cases hx : (c.toNat : Int) = 120
    · have hxb : ((c.toNat : Int) == 120) = true := beq_iff_eq.2 hx
      have e1 : ((c.toNat : Int) == 110) = false := beq_eq_false_iff_ne.2 (by omega)
      have e2 : ((c.toNat : Int) == 92) = false := beq_eq_false_iff_ne.2 (by omega)
      have e3 : ((c.toNat : Int) == 34) = false := beq_eq_false_iff_ne.2 (by omega)
      have e4 : ((c.toNat : Int) == 39) = false := beq_eq_false_iff_ne.2 (by omega)
      have e5 : ((c.toNat : Int) == 116) = false := beq_eq_false_iff_ne.2 (by omega)
      have e6 : ((c.toNat : Int) == 114) = false := beq_eq_false_iff_ne.2 (by omega)
      clear hx
      by_cases h2 : 2 < s.size
      · have h2' : (2 : Int) < (s.size : Int) := by omega
        have h21 : 1 < s.size := by omega
        cases ha : isHex s[1] <;> cases hb : isHex s[2]
        case true.true =>
          have hsz : (s.extract 1 3).size = 2 := by rw [ByteArray.size_extract]; omega
          have hxx : ∀ k (h : k < (s.extract 1 3).size), isHex (s.extract 1 3)[k] = true := by
            intro k h
            have hl := get_list (s.extract 1 3) k h
            rw [Lib.extract_data] at hl
            rw [hsz] at h
            rcases (show k = 0 ∨ k = 1 by omega) with rfl | rfl
            · rw [List.getElem?_take_of_lt (by omega), List.getElem?_drop, get_list s 1 h21] at hl
              injection hl with hl; rw [← hl]; exact ha
            · rw [List.getElem?_take_of_lt (by omega), List.getElem?_drop, get_list s 2 h2] at hl
              injection hl with hl; rw [← hl]; exact hb
          have Ha := Lib.hid ha
          have Hb := Lib.hid hb
          have Hs := Lib.hid hsz
          have Hxx := Lib.hid hxx
          clear ha hb hsz hxx
          go_enter Tryz.func76, Tryz.ntmps76
          go_wp2_with (first
            | (go_at_call 74; refine (lex_hex _ _).mono ?_; rintro e w' ⟨rfl, rfl⟩; first | rw [Ha.out] | rw [Hb.out])
            | (go_at_call 91; refine (sc_ParseUint_hex _ Hs.out Hxx.out _).mono ?_; rintro e w' ⟨n, hn0, hn1, rfl, hb⟩))
          · go_ret2
            exact ⟨ByteAnd.mk (by omega) (by omega) (by omega) (by omega), hb⟩
          · go_ret2
            exact ⟨ByteAnd.mk (by omega) (by omega) (by omega) (by omega), hb⟩
        all_goals
          have Ha := Lib.hid ha
          have Hb := Lib.hid hb
          clear ha hb
          go_enter Tryz.func76, Tryz.ntmps76
          go_wp2_with (go_at_call 74; refine (lex_hex _ _).mono ?_; rintro e w' ⟨rfl, rfl⟩; first | rw [Ha.out] | rw [Hb.out])
          go_ret2
          exact ⟨ByteAnd.mk (by omega) (by omega) (by omega) (by omega), Below.refl _ _⟩
      · have h2' : ¬ (2 : Int) < (s.size : Int) := by omega
        go_enter Tryz.func76, Tryz.ntmps76
        go_wp2
        go_ret2
        exact ⟨ByteAnd.mk (by omega) (by omega) (by omega) (by omega), Below.refl _ _⟩
    · have hxb : ((c.toNat : Int) == 120) = false := beq_eq_false_iff_ne.2 hx
      clear hx
      go_enter Tryz.func76, Tryz.ntmps76
      go_wp2
      all_goals
        go_ret2
        exact ⟨ByteAnd.mk (by omega) (by omega) (by omega) (by omega), Below.refl _ _⟩
end Go.Proofs.YtmfnkilohicapaaGreatDoor
