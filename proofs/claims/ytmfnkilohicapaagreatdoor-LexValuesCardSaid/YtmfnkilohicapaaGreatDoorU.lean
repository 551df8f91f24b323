/- The reference's Utf8: it answers what u8ok says, and memory stays. -/
import Derived.Test.YtmfnkilohicapaaGreatDoorR
namespace Go.Proofs.YtmfnkilohicapaaGreatDoor
open Go.RowKit

/-- One byte more of a rune. -/
def u8more (r d : Int) : Int := wrap64 (wrap64 (r * 64) + wrap64 (bits BinOp.and IntKind.u8 d 63))
/-- The bytes behind a rune's first one. -/
def u8in (s : ByteArray) (k : Nat) : Nat → Nat → Int → Option Int
  | 0, _, r => some r
  | m + 1, j, r => if _h : k + j < s.size then (if bits BinOp.and IntKind.u8 (s[k + j].toNat : Int) 192 != 128 then none else u8in s k m (j + 1) (u8more r (s[k + j].toNat : Int))) else none
def u8bad (least r : Int) : Bool := decide (r < least) || decide (r > 1114111) || (decide (r ≥ 55296) && decide (r < 57344))
def u8end (n : Nat) (least : Int) : Option Int → Option Nat
  | none => none
  | some r => if u8bad least r then none else some (n + 1)
/-- The rune that stands at a place: how many bytes; none: it is wrong. -/
def u8one (s : ByteArray) (k : Nat) (c : Int) : Option Nat :=
  if c < 128 then some 1 else if c < 194 then none else if c < 224 then u8end 1 128 (u8in s k 1 1 (bits BinOp.and IntKind.i64 c 31))
  else if c < 240 then u8end 2 2048 (u8in s k 2 1 (bits BinOp.and IntKind.i64 c 15)) else if c < 245 then u8end 3 65536 (u8in s k 3 1 (bits BinOp.and IntKind.i64 c 7)) else none
def u8next (_ : ByteArray) (k : Nat) (go : Nat → Bool) : Option Nat → Bool
  | none => false
  | some m => go (k + m)
def u8okF : Nat → ByteArray → Nat → Bool
  | 0, _, _ => true
  | f + 1, s, k => if h : k < s.size then u8next s k (u8okF f s) (u8one s k (s[k].toNat : Int)) else true
theorem u8okF_in (f : Nat) (s : ByteArray) (k : Nat) (h : k < s.size) (c : UInt8) (hc : s[k] = c) : u8okF (f + 1) s k = u8next s k (u8okF f s) (u8one s k (c.toNat : Int)) := by
  rw [u8okF, dif_pos h, hc]
theorem u8okF_out (f : Nat) (s : ByteArray) (k : Nat) (h : ¬ k < s.size) : u8okF f s k = true := by
  cases f with
  | zero => rfl
  | succ f => rw [u8okF, dif_neg h]
theorem u8in_out (s : ByteArray) (k m j : Nat) (r : Int) (h : ¬ k + j < s.size) : u8in s k (m + 1) j r = none := by
  rw [u8in, dif_neg h]
theorem u8in_bad (s : ByteArray) (k m j : Nat) (r : Int) (h : k + j < s.size) (d : UInt8) (hd : s[k + j] = d) (hb : (bits BinOp.and IntKind.u8 (d.toNat : Int) 192 != 128) = true) : u8in s k (m + 1) j r = none := by
  rw [u8in, dif_pos h, hd, if_pos hb]
theorem u8in_ok (s : ByteArray) (k m j : Nat) (r : Int) (h : k + j < s.size) (d : UInt8) (hd : s[k + j] = d) (hb : (bits BinOp.and IntKind.u8 (d.toNat : Int) 192 != 128) = false) : u8in s k (m + 1) j r = u8in s k m (j + 1) (u8more r (d.toNat : Int)) := by
  rw [u8in, dif_pos h, hd, if_neg (by rw [hb]; decide)]
/-- Is a text right UTF-8? -/
def u8ok (s : ByteArray) : Bool := u8okF s.size s 0
set_option maxHeartbeats 8000000 in
set_option maxRecDepth 100000 in
theorem ref_Utf8 (s : ByteArray) (hs : s.size ≤ 140737488355328) (w : World) :
    Calls Tryz.prog 89 #[.string s] w fun e w' => e = .returned (.bool (u8ok s)) ∧ w = w' := by
  go_enter Tryz.func89, Tryz.ntmps89
  go_wp2
  go_loop [2, 3, 4, 5, 6, 7, 8] (fun _ v3 _ _ _ _ _ => ∃ k f : Nat, k ≤ s.size ∧ s.size ≤ k + f ∧ v3 = .int .i64 k ∧ Hid (u8ok s = u8okF f s k)) (fun _ v3 _ _ _ _ _ => s.size - (intOf v3).toNat)
  case atStart => exact ⟨0, s.size, by omega, by omega, rfl, Lib.hid rfl⟩
  case round =>
    obtain ⟨k, f, hk, hf, rfl, HU⟩ := hrel
    by_cases hlt : k < s.size
    · have hlt' : (k : Int) < (s.size : Int) := by omega
      obtain ⟨f, rfl⟩ : ∃ g, f = g + 1 := ⟨f - 1, by omega⟩
      obtain ⟨c, hc⟩ : ∃ c, s[k] = c := ⟨_, rfl⟩
      have hc256 : (c.toNat : Int) ≤ 255 := by have := c.toNat_lt; omega
      by_cases h1 : (c.toNat : Int) < 128
      · have hs1 := HU.out
        rw [u8okF_in f s k hlt c hc, u8one, if_pos h1] at hs1
        have HV := Lib.hid hs1
        clear HU hs1
        go_wp2
        go_round
        case rel => exact ⟨k + 1, f, by omega, by omega, by go_num, HV⟩
        case measure => (simp [intOf] <;> omega)
      · have t0 : (c.toNat : Int) < 194 ∨ (194 ≤ (c.toNat : Int) ∧ (c.toNat : Int) < 224) ∨ (224 ≤ (c.toNat : Int) ∧ (c.toNat : Int) < 240) ∨ (240 ≤ (c.toNat : Int) ∧ (c.toNat : Int) < 245) ∨ 245 ≤ (c.toNat : Int) := by omega
        rcases t0 with t1 | ⟨t1, t2⟩ | ⟨t1, t2⟩ | ⟨t1, t2⟩ | t1
        · have hs1 := HU.out
          rw [u8okF_in f s k hlt c hc, u8one, if_neg h1, if_pos (by omega)] at hs1
          have HV := Lib.hid hs1
          clear HU hs1
          go_wp2
          go_ret
          exact ⟨ret_bool (by rw [HV.out]; rfl), rfl⟩
        · have h1 : u8one s k (c.toNat : Int) = u8end 1 128 (u8in s k 1 1 (bits BinOp.and IntKind.i64 (c.toNat : Int) 31)) := by
            unfold u8one
            rw [if_neg (by omega), if_neg (by omega), if_pos (by omega)]
          have hs1 := HU.out
          rw [u8okF_in f s k hlt c hc, h1] at hs1
          go_upto_region 22 with fail
          obtain ⟨r0, hr0⟩ : ∃ r0, bits BinOp.and IntKind.i64 (c.toNat : Int) 31 = r0 := ⟨_, rfl⟩
          rw [hr0] at hs1 ⊢
          have HS1 := Lib.hid hs1
          clear hr0 h1 hs1
          go_wp2
          go_loop [7, 8] (fun v7 v8 => ∃ (j m : Nat) (r : Int), 1 ≤ j ∧ j + m = 2 ∧ k + j ≤ s.size ∧ v8 = .int .i64 j ∧ v7 = .int .i64 r ∧ Hid (u8ok s = u8next s k (u8okF f s) (u8end 1 128 (u8in s k m j r)))) (fun _ v8 => 2 - (intOf v8).toNat)
          case atStart => exact ⟨1, 1, r0, by omega, by omega, by omega, rfl, rfl, HS1⟩
          case round =>
            clear HS1 HU
            obtain ⟨j, m, r, hj1, hj2, hj3, rfl, rfl, HU⟩ := hrel
            rcases m with _ | m
            · obtain rfl : j = 2 := by omega
              have hu : u8ok s = u8next s k (u8okF f s) (if u8bad 128 r then none else some (2)) := HU.out
              unfold u8bad at hu
              clear HU
              cases b1 : decide (r < 128)
              all_goals cases b2 : decide (r > 1114111)
              all_goals cases b3 : decide (r ≥ 55296)
              all_goals cases b4 : decide (r < 57344)
              all_goals
                rw [b1, b2, b3, b4] at hu
                have HV := Lib.hid hu
                clear hu
                go_wp2
                first
                  | (go_ret; exact ⟨ret_bool (by rw [HV.out]; rfl), rfl⟩)
                  | exact ⟨⟨k + 2, f, by omega, by omega, by go_num, Lib.hid HV.out⟩, by simp [intOf] <;> omega⟩
            · have hjn' : (j : Int) ≤ 1 := by omega
              by_cases hin : k + j < s.size
              · have hin' : ¬ ((k : Int) + (j : Int) ≥ (s.size : Int)) := by omega
                have hin2 : ((k : Int) + (j : Int)).toNat = k + j := by omega
                have hin3 : decide ((k : Int) + (j : Int) ≥ (s.size : Int)) = false := decide_eq_false hin'
                obtain ⟨d, hd⟩ : ∃ d, s[k + j] = d := ⟨_, rfl⟩
                cases hb : (bits BinOp.and IntKind.u8 (d.toNat : Int) 192 != 128)
                · have hu := HU.out
                  rw [u8in_ok s k m j r hin d hd hb] at hu
                  have HV := Lib.hid hu
                  clear hu HU
                  go_wp2
                  go_round
                  case rel => exact ⟨j + 1, m, _, by omega, by omega, by omega, by go_num, rfl, HV⟩
                  case measure => (simp [intOf] <;> omega)
                · have hu := HU.out
                  rw [u8in_bad s k m j r hin d hd hb] at hu
                  have HV := Lib.hid hu
                  clear hu HU
                  go_wp2
                  go_ret
                  exact ⟨ret_bool (by rw [HV.out]; rfl), rfl⟩
              · have hin' : (k : Int) + (j : Int) ≥ (s.size : Int) := by omega
                have hu := HU.out
                rw [u8in_out s k m j r hin] at hu
                have HV := Lib.hid hu
                clear hu HU
                go_wp2
                go_ret
                exact ⟨ret_bool (by rw [HV.out]; rfl), rfl⟩
        · have h1 : u8one s k (c.toNat : Int) = u8end 2 2048 (u8in s k 2 1 (bits BinOp.and IntKind.i64 (c.toNat : Int) 15)) := by
            unfold u8one
            rw [if_neg (by omega), if_neg (by omega), if_neg (by omega), if_pos (by omega)]
          have hs1 := HU.out
          rw [u8okF_in f s k hlt c hc, h1] at hs1
          go_upto_region 22 with fail
          obtain ⟨r0, hr0⟩ : ∃ r0, bits BinOp.and IntKind.i64 (c.toNat : Int) 15 = r0 := ⟨_, rfl⟩
          rw [hr0] at hs1 ⊢
          have HS1 := Lib.hid hs1
          clear hr0 h1 hs1
          go_wp2
          go_loop [7, 8] (fun v7 v8 => ∃ (j m : Nat) (r : Int), 1 ≤ j ∧ j + m = 3 ∧ k + j ≤ s.size ∧ v8 = .int .i64 j ∧ v7 = .int .i64 r ∧ Hid (u8ok s = u8next s k (u8okF f s) (u8end 2 2048 (u8in s k m j r)))) (fun _ v8 => 3 - (intOf v8).toNat)
          case atStart => exact ⟨1, 2, r0, by omega, by omega, by omega, rfl, rfl, HS1⟩
          case round =>
            clear HS1 HU
            obtain ⟨j, m, r, hj1, hj2, hj3, rfl, rfl, HU⟩ := hrel
            rcases m with _ | m
            · obtain rfl : j = 3 := by omega
              have hu : u8ok s = u8next s k (u8okF f s) (if u8bad 2048 r then none else some (3)) := HU.out
              unfold u8bad at hu
              clear HU
              cases b1 : decide (r < 2048)
              all_goals cases b2 : decide (r > 1114111)
              all_goals cases b3 : decide (r ≥ 55296)
              all_goals cases b4 : decide (r < 57344)
              all_goals
                rw [b1, b2, b3, b4] at hu
                have HV := Lib.hid hu
                clear hu
                go_wp2
                first
                  | (go_ret; exact ⟨ret_bool (by rw [HV.out]; rfl), rfl⟩)
                  | exact ⟨⟨k + 3, f, by omega, by omega, by go_num, Lib.hid HV.out⟩, by simp [intOf] <;> omega⟩
            · have hjn' : (j : Int) ≤ 2 := by omega
              by_cases hin : k + j < s.size
              · have hin' : ¬ ((k : Int) + (j : Int) ≥ (s.size : Int)) := by omega
                have hin2 : ((k : Int) + (j : Int)).toNat = k + j := by omega
                have hin3 : decide ((k : Int) + (j : Int) ≥ (s.size : Int)) = false := decide_eq_false hin'
                obtain ⟨d, hd⟩ : ∃ d, s[k + j] = d := ⟨_, rfl⟩
                cases hb : (bits BinOp.and IntKind.u8 (d.toNat : Int) 192 != 128)
                · have hu := HU.out
                  rw [u8in_ok s k m j r hin d hd hb] at hu
                  have HV := Lib.hid hu
                  clear hu HU
                  go_wp2
                  go_round
                  case rel => exact ⟨j + 1, m, _, by omega, by omega, by omega, by go_num, rfl, HV⟩
                  case measure => (simp [intOf] <;> omega)
                · have hu := HU.out
                  rw [u8in_bad s k m j r hin d hd hb] at hu
                  have HV := Lib.hid hu
                  clear hu HU
                  go_wp2
                  go_ret
                  exact ⟨ret_bool (by rw [HV.out]; rfl), rfl⟩
              · have hin' : (k : Int) + (j : Int) ≥ (s.size : Int) := by omega
                have hu := HU.out
                rw [u8in_out s k m j r hin] at hu
                have HV := Lib.hid hu
                clear hu HU
                go_wp2
                go_ret
                exact ⟨ret_bool (by rw [HV.out]; rfl), rfl⟩
        · have h1 : u8one s k (c.toNat : Int) = u8end 3 65536 (u8in s k 3 1 (bits BinOp.and IntKind.i64 (c.toNat : Int) 7)) := by
            unfold u8one
            rw [if_neg (by omega), if_neg (by omega), if_neg (by omega), if_neg (by omega), if_pos (by omega)]
          have hs1 := HU.out
          rw [u8okF_in f s k hlt c hc, h1] at hs1
          go_upto_region 22 with fail
          obtain ⟨r0, hr0⟩ : ∃ r0, bits BinOp.and IntKind.i64 (c.toNat : Int) 7 = r0 := ⟨_, rfl⟩
          rw [hr0] at hs1 ⊢
          have HS1 := Lib.hid hs1
          clear hr0 h1 hs1
          go_wp2
          go_loop [7, 8] (fun v7 v8 => ∃ (j m : Nat) (r : Int), 1 ≤ j ∧ j + m = 4 ∧ k + j ≤ s.size ∧ v8 = .int .i64 j ∧ v7 = .int .i64 r ∧ Hid (u8ok s = u8next s k (u8okF f s) (u8end 3 65536 (u8in s k m j r)))) (fun _ v8 => 4 - (intOf v8).toNat)
          case atStart => exact ⟨1, 3, r0, by omega, by omega, by omega, rfl, rfl, HS1⟩
          case round =>
            clear HS1 HU
            obtain ⟨j, m, r, hj1, hj2, hj3, rfl, rfl, HU⟩ := hrel
            rcases m with _ | m
            · obtain rfl : j = 4 := by omega
              have hu : u8ok s = u8next s k (u8okF f s) (if u8bad 65536 r then none else some (4)) := HU.out
              unfold u8bad at hu
              clear HU
              cases b1 : decide (r < 65536)
              all_goals cases b2 : decide (r > 1114111)
              all_goals cases b3 : decide (r ≥ 55296)
              all_goals cases b4 : decide (r < 57344)
              all_goals
                rw [b1, b2, b3, b4] at hu
                have HV := Lib.hid hu
                clear hu
                go_wp2
                first
                  | (go_ret; exact ⟨ret_bool (by rw [HV.out]; rfl), rfl⟩)
                  | exact ⟨⟨k + 4, f, by omega, by omega, by go_num, Lib.hid HV.out⟩, by simp [intOf] <;> omega⟩
            · have hjn' : (j : Int) ≤ 3 := by omega
              by_cases hin : k + j < s.size
              · have hin' : ¬ ((k : Int) + (j : Int) ≥ (s.size : Int)) := by omega
                have hin2 : ((k : Int) + (j : Int)).toNat = k + j := by omega
                have hin3 : decide ((k : Int) + (j : Int) ≥ (s.size : Int)) = false := decide_eq_false hin'
                obtain ⟨d, hd⟩ : ∃ d, s[k + j] = d := ⟨_, rfl⟩
                cases hb : (bits BinOp.and IntKind.u8 (d.toNat : Int) 192 != 128)
                · have hu := HU.out
                  rw [u8in_ok s k m j r hin d hd hb] at hu
                  have HV := Lib.hid hu
                  clear hu HU
                  go_wp2
                  go_round
                  case rel => exact ⟨j + 1, m, _, by omega, by omega, by omega, by go_num, rfl, HV⟩
                  case measure => (simp [intOf] <;> omega)
                · have hu := HU.out
                  rw [u8in_bad s k m j r hin d hd hb] at hu
                  have HV := Lib.hid hu
                  clear hu HU
                  go_wp2
                  go_ret
                  exact ⟨ret_bool (by rw [HV.out]; rfl), rfl⟩
              · have hin' : (k : Int) + (j : Int) ≥ (s.size : Int) := by omega
                have hu := HU.out
                rw [u8in_out s k m j r hin] at hu
                have HV := Lib.hid hu
                clear hu HU
                go_wp2
                go_ret
                exact ⟨ret_bool (by rw [HV.out]; rfl), rfl⟩
        · have hs1 := HU.out
          rw [u8okF_in f s k hlt c hc, u8one, if_neg h1, if_neg (by omega), if_neg (by omega), if_neg (by omega), if_neg (by omega)] at hs1
          have HV := Lib.hid hs1
          clear HU hs1
          go_wp2
          go_ret
          exact ⟨ret_bool (by rw [HV.out]; rfl), rfl⟩
    · have hlt' : ¬ (k : Int) < (s.size : Int) := by omega
      have hs1 := HU.out
      rw [u8okF_out f s k hlt] at hs1
      have HV := Lib.hid hs1
      clear HU hs1
      go_wp2
      go_ret
      exact ⟨ret_bool HV.out.symm, rfl⟩
end Go.Proofs.YtmfnkilohicapaaGreatDoor

/- The reference's 'sign' and 'text': they answer, and what was there stays. -/
namespace Go.Proofs.YtmfnkilohicapaaGreatDoor
open Go.RowKit

def TextAnd (e : Ending) : Prop := ∃ t, e = .returned (.string t)
theorem TextAnd.mk (t : ByteArray) : TextAnd (.returned (.string t)) := ⟨t, rfl⟩
set_option maxHeartbeats 8000000 in
set_option maxRecDepth 100000 in
theorem ref_sign (s : ByteArray) (h1 : 0 < s.size) (hs : s.size ≤ 140737488351232) (w : World) :
    Calls Tryz.prog 68 #[.string s, .int .i64 0] w fun e w' => TextAnd e ∧ Below w.heap.size w w' := by
  go_enter Tryz.func68, Tryz.ntmps68
  go_wp2_with (go_at_call 92; refine (ref_signs _).mono ?_; rintro e w' ⟨rfl, rfl⟩)
  obtain ⟨wq, hwq⟩ : ∃ wq, w.alloc signsObj = wq := ⟨_, rfl⟩
  have hsc : ∀ i, i < 22 → wq.cell? ⟨w.heap.size, i, none⟩ = some (.string ⟨(signsL.getD i []).toArray⟩) := fun i hi => by
    rw [← hwq]
    exact cell_only w _ 9 i _ (signCells_at i hi)
  have hB : Below w.heap.size w wq := by
    rw [← hwq]
    exact (Below.refl _ _).alloc (Nat.le_refl _) _
  rw [hwq]
  have HSC := Lib.hid hsc
  have HB := Lib.hid hB
  clear hsc hB
  have hlwq : w.heap.size < wq.heap.size := by rw [← hwq, World.size_alloc]; omega
  have HW := Lib.hid (Below.refl wq.heap.size wq)
  clear hwq
  go_loopw [6, 7] (fun v6 _ wr => ∃ i : Nat, i ≤ 22 ∧ v6 = .int .i64 i ∧ Hid (Below wq.heap.size wq wr)) (fun v6 _ _ => 22 - (intOf v6).toNat)
  case atStart => exact ⟨0, by omega, rfl, HW⟩
  case round =>
    clear HW
    obtain ⟨i, hi, rfl, HW⟩ := hrel
    by_cases hlt : i < 22
    · have hlt' : (i : Int) < 22 := by omega
      have hcell := (HW.out.cell (p := ⟨w.heap.size, i, none⟩) hlwq).trans (HSC.out i hlt)
      obtain ⟨X, hX⟩ : ∃ X : ByteArray, (⟨(signsL.getD i []).toArray⟩ : ByteArray) = X := ⟨_, rfl⟩
      have hxs : X.size ≤ 2 := by rw [← hX, size_len]; exact signs_ne i hlt
      rw [hX] at hcell
      clear hX
      by_cases hn : X.size ≤ s.size
      · have hn' : (X.size : Int) ≤ (s.size : Int) - 0 := by omega
        have hn3 : IntKind.i64.wrap (0 + (X.size : Int)) = 0 + (X.size : Int) := IntWalk.i64_in _ ⟨by omega, by omega⟩
        cases heq : ((s.extract 0 X.size).toList == X.toList)
        · go_wp2
          go_quiet (fail)
          go_wp2
          go_round
          case rel => exact ⟨i + 1, by omega, by go_num, below_drewN_ HW.out _⟩
          case measure => (simp [intOf] <;> omega)
        · go_wp2
          go_quiet (fail)
          go_wp2
          go_ret
          exact ⟨TextAnd.mk _, below_drewN_ (HB.out.trans (HW.out.mono HB.out.size)) _⟩
      · have hn' : ¬ (X.size : Int) ≤ (s.size : Int) - 0 := by omega
        have hn2 : ¬ (X.size : Int) ≤ (s.size : Int) := by omega
        have hn4 : decide ((X.size : Int) ≤ (s.size : Int) - 0) = false := decide_eq_false hn'
        have hn5 : decide ((X.size : Int) ≤ (s.size : Int)) = false := decide_eq_false hn2
        go_wp2
        go_quiet (fail)
        go_wp2
        go_round
        case rel => exact ⟨i + 1, by omega, by go_num, below_drewN_ HW.out _⟩
        case measure => (simp [intOf] <;> omega)
    · obtain rfl : i = 22 := by omega
      go_wp2
      go_ret
      exact ⟨TextAnd.mk _, HB.out.trans (HW.out.mono HB.out.size)⟩
end Go.Proofs.YtmfnkilohicapaaGreatDoor
