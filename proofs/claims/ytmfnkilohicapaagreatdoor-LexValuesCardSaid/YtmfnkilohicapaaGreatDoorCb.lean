/- ParseFloat's small functions: each answers, whatever the memory. -/
import Derived.Test.YtmfnkilohicapaaGreatDoorBj
namespace Go.Proofs.YtmfnkilohicapaaGreatDoor
open Go.RowKit

def b2i (b : Bool) : Int := if b then 1 else 0
theorem bool2_int (b : Bool) (w : World) : Calls Tryz.prog 95 #[.bool b] w fun e w' => e = .returned (.int .i64 (b2i b)) ∧ w = w' := by
  cases b
  all_goals
    go_enter Tryz.func95, Tryz.ntmps95
    go_wp2
    go_ret
    exact ⟨rfl, rfl⟩
theorem bool2_u64 (b : Bool) (w : World) : Calls Tryz.prog 109 #[.bool b] w fun e w' => e = .returned (.int .u64 (b2i b)) ∧ w = w' := by
  cases b
  all_goals
    go_enter Tryz.func109, Tryz.ntmps109
    go_wp2
    go_ret
    exact ⟨rfl, rfl⟩
/-- log2Pow10. -/
def l2p (p : Int) : Int := p * 108853 / 32768
theorem log2Pow10 (p : Int) (h0 : -400 ≤ p) (h1 : p ≤ 400) (w : World) : Calls Tryz.prog 124 #[.int .i64 p] w fun e w' => e = .returned (.int .i64 (l2p p)) ∧ w = w' := by
  go_enter Tryz.func124, Tryz.ntmps124
  go_wp2
  go_ret
  exact ⟨rfl, rfl⟩
theorem unmin_53 (w : World) : Calls Tryz.prog 127 #[.int .u64 9007199254740992] w fun e w' => e = .returned (.int .u64 36028797018963966) ∧ w = w' := by
  go_enter Tryz.func127, Tryz.ntmps127
  go_wp2
  go_ret
  exact ⟨rfl, rfl⟩
def rnd (x : Int) : Int := IntKind.u64.wrap (IntKind.u64.wrap (x + 1) + bits BinOp.and IntKind.u64 (x / 4) 1) / 4
theorem round_ (x : Int) (w : World) : Calls Tryz.prog 129 #[.int .u64 x] w fun e w' => e = .returned (.int .u64 (rnd x)) ∧ w = w' := by
  go_enter Tryz.func129, Tryz.ntmps129
  go_wp2
  go_ret
  exact ⟨rfl, rfl⟩
theorem frombits (n : Int) (w : World) : (callFunc 110 #[.int .u64 n]).run Tryz.prog w = .ok (.value (.float .f64 n.toNat)) w := by
  rw [run_callFunc_extern Tryz.func110 (by kernel_rfl) (by kernel_rfl) (by kernel_rfl) (e := Extern.MathFloatBits.float64frombits) (by kernel_rfl)]; rfl
theorem float64bits (b : Nat) (w : World) : (callFunc 10 #[.float .f64 b]).run Tryz.prog w = .ok (.value (.int .u64 b)) w := by
  rw [run_callFunc_extern Tryz.func10 (by kernel_rfl) (by kernel_rfl) (by kernel_rfl) (e := Extern.MathFloatBits.float64bits) (by kernel_rfl)]; rfl
/-- pack64: the float64's bits. -/
def packB (x y : Int) : Nat :=
  if bits .and .u64 x 4503599627370496 == 0 then x.toNat
  else if y ≥ 972 then (bits BinOp.or IntKind.u64 (bits BinOp.and IntKind.u64 x 9223372036854775808) 9218868437227405312).toNat
  else (bits BinOp.or IntKind.u64 (bits BinOp.andNot IntKind.u64 x 4503599627370496) (IntKind.u64.wrap (IntKind.u64.wrap (wrap64 (1075 + y)) * 4503599627370496))).toNat
/-- .. and is there a range error? -/
def packE (x y : Int) : Value := if (bits .and .u64 x 4503599627370496 != 0) && decide (y ≥ 972) then .iface 87 (.int .i64 1) else .nilIface
theorem ret_pack {a b : Nat} {x y : Value} (h : a = b) (h2 : x = y) : Ending.returned (.tuple #[.float .f64 a, x]) = .returned (.tuple #[.float .f64 b, y]) := by rw [h, h2]
set_option maxRecDepth 100000 in
theorem pack_ (x y : Int) (w : World) : Calls Tryz.prog 132 #[.int .u64 x, .int .i64 y] w fun e w' => e = .returned (.tuple #[.float .f64 (packB x y), packE x y]) ∧ w = w' := by
  have hfb := frombits
  obtain ⟨B, hB⟩ : ∃ B, packB x y = B := ⟨_, rfl⟩
  obtain ⟨E, hE⟩ : ∃ E, packE x y = E := ⟨_, rfl⟩
  rw [hB, hE]
  cases h : (bits .and .u64 x 4503599627370496 == 0)
  · by_cases h2 : y ≥ 972
    · rw [packB, h, if_neg (by decide), if_pos h2] at hB
      rw [packE, bne, h, decide_eq_true h2, if_pos (by decide)] at hE
      have HB := Lib.hid hB
      have HE := Lib.hid hE
      clear hB hE
      go_enter Tryz.func132, Tryz.ntmps132
      go_wp2
      go_ret2
      exact ⟨ret_pack HB.out HE.out, rfl⟩
    · rw [packB, h, if_neg (by decide), if_neg h2] at hB
      rw [packE, decide_eq_false h2, Bool.and_false, if_neg (by decide)] at hE
      have HB := Lib.hid hB
      have HE := Lib.hid hE
      clear hB hE
      go_enter Tryz.func132, Tryz.ntmps132
      go_wp2
      go_ret2
      exact ⟨ret_pack HB.out HE.out, rfl⟩
  · rw [packB, h, if_pos rfl] at hB
    rw [packE, bne, h, if_neg (by simp)] at hE
    have HB := Lib.hid hB
    have HE := Lib.hid hE
    clear hB hE
    go_enter Tryz.func132, Tryz.ntmps132
    go_wp2
    go_ret2
    exact ⟨ret_pack HB.out HE.out, rfl⟩
/-- A scaler in a block of its own. -/
def ScalerAt (w : World) (b : Nat) (h l s : Int) : Prop := w.heap[b]? = some (.cells #[.int .u64 h, .int .u64 l, .int .i64 s] 175 (0, 0))
set_option maxRecDepth 100000 in
set_option maxHeartbeats 1000000 in
theorem prescale_ (b : Nat) (e p lp : Int) (hp : -348 ≤ p) (hp2 : p ≤ 347) (h l : Nat) (hr : Pinned.pow10Rows[(p + 348).toNat]? = some (h, l)) (w : World) (hb : w.heap[b]? = some (.cells #[.int .u64 0, .int .u64 0, .int .i64 0] 175 (0, 0)))
    (hT : Tabs w) : Calls Tryz.prog 125 #[.pointer (some ⟨b, 0, none⟩), .int .i64 e, .int .i64 p, .int .i64 lp] w fun e' w' => e' = .returned (.tuple #[]) ∧ ScalerAt w' b h l (wrap64 (-(wrap64 (wrap64 (e + lp) + 3)))) ∧ (∀ k, k ≠ b → w'.heap[k]? = w.heap[k]?) ∧ w'.heap.size = w.heap.size ∧ Below b w w' := by
  obtain ⟨t1, t2⟩ := hT.p10 (p + 348).toNat h l hr
  obtain ⟨i, hi⟩ := Int.eq_ofNat_of_zero_le (show 0 ≤ p + 348 by omega)
  have hi2 : (p + 348).toNat = i := by omega
  rw [hi2] at t1 t2
  have c0 : w.cell? ⟨b, 0, none⟩ = some (.int .u64 0) := by rw [Lib.cell_of_heap hb]; rfl
  have c1 : w.cell? ⟨b, 1, none⟩ = some (.int .u64 0) := by rw [Lib.cell_of_heap hb]; rfl
  have c2 : w.cell? ⟨b, 2, none⟩ = some (.int .i64 0) := by rw [Lib.cell_of_heap hb]; rfl
  have f0 := Lib.frozen_of_heap hb 0
  have f1 := Lib.frozen_of_heap hb 1
  have f2 := Lib.frozen_of_heap hb 2
  have hi3 : p - -348 = (i : Int) := by omega
  have hi4 : (i : Int) < 696 := by omega
  have Hb := Lib.hid hb
  clear hb hT hr hi2
  go_enter Tryz.func125, Tryz.ntmps125
  go_wp2
  go_end0
  refine ⟨rfl, ?_, ?_, ?_, ?_⟩
  · exact Lib.heap_setCell_same (i := 2) (Lib.heap_setCell_same (i := 1) (Lib.heap_setCell_same (i := 0) Hb.out (.int .u64 h)) (.int .u64 l)) (.int .i64 (wrap64 (-(wrap64 (wrap64 (e + lp) + 3)))))
  · intro k hk
    rw [Below.heap_setCell _ _ _ _ hk, Below.heap_setCell _ _ _ _ hk, Below.heap_setCell _ _ _ _ hk]
  · rw [World.size_setCell, World.size_setCell, World.size_setCell]
  · exact (((Below.refl _ _).setCell (p := ⟨b, 0, none⟩) (Nat.le_refl _) _).setCell (p := ⟨b, 1, none⟩) (Nat.le_refl _) _).setCell (p := ⟨b, 2, none⟩) (Nat.le_refl _) _
end Go.Proofs.YtmfnkilohicapaaGreatDoor

/- ParseFloat's scaling. -/
namespace Go.Proofs.YtmfnkilohicapaaGreatDoor
open Go.RowKit

theorem ret_u64 {a b : Int} (h : a = b) : Ending.returned (.int .u64 a) = .returned (.int .u64 b) := by rw [h]
/-- uscale. -/
def uscG (hi mid mid2 : Nat) (s : Nat) : Int :=
  if (IntKind.u64.wrap ((hi : Int) / 2 ^ s * 2 ^ s) != (hi : Int)) = true then bits BinOp.or IntKind.u64 ((hi : Int) / 2 ^ s) 1
  else bits BinOp.or IntKind.u64 (IntKind.u64.wrap ((hi : Int) - b2i (decide (mid < mid2))) / 2 ^ s) (b2i (decide (1 < IntKind.u64.wrap ((mid : Int) - (mid2 : Int)))))
def uscF (x h l s : Nat) : Int := uscG (x * h / 18446744073709551616) (x * h % 18446744073709551616) (x * l / 18446744073709551616) s
set_option maxRecDepth 100000 in
set_option maxHeartbeats 1000000 in
theorem uscale_ (b : Nat) (x h l s : Nat) (sv : Int) (hx : x < 18446744073709551616) (hh : h < 18446744073709551616) (hl : l < 18446744073709551616) (hs : bits BinOp.and IntKind.i64 sv 63 = (s : Int)) (hs2 : s < 64) (w : World) (hS : ScalerAt w b h l sv) :
    Calls Tryz.prog 126 #[.int .u64 x, .pointer (some ⟨b, 0, none⟩)] w fun e w' => e = .returned (.int .u64 (uscF x h l s)) ∧ ∃ n, w' = w.drewN n := by
  have c0 : w.cell? ⟨b, 0, none⟩ = some (.int .u64 (h : Int)) := by rw [Lib.cell_of_heap hS]; rfl
  have c1 : w.cell? ⟨b, 1, none⟩ = some (.int .u64 (l : Int)) := by rw [Lib.cell_of_heap hS]; rfl
  have c2 : w.cell? ⟨b, 2, none⟩ = some (.int .i64 sv) := by rw [Lib.cell_of_heap hS]; rfl
  have hm1 := fun wx => Tryz.bits_Mul64 x h hx hh wx
  have hm2 := fun wx => Tryz.bits_Mul64 x l hx hl wx
  obtain ⟨hi, hhi⟩ : ∃ hi, x * h / 18446744073709551616 = hi := ⟨_, rfl⟩
  obtain ⟨mid, hmid⟩ : ∃ mid, x * h % 18446744073709551616 = mid := ⟨_, rfl⟩
  obtain ⟨mid2, hmid2⟩ : ∃ mid2, x * l / 18446744073709551616 = mid2 := ⟨_, rfl⟩
  obtain ⟨lo2, hlo2⟩ : ∃ lo2, x * l % 18446744073709551616 = lo2 := ⟨_, rfl⟩
  rw [hhi, hmid] at hm1
  rw [hmid2, hlo2] at hm2
  have Hm1 := Lib.hid hm1
  have Hm2 := Lib.hid hm2
  clear hS hm1 hm2
  unfold uscF
  rw [hhi, hmid, hmid2]
  obtain ⟨R, hR⟩ : ∃ R, uscG hi mid mid2 s = R := ⟨_, rfl⟩
  rw [hR]
  unfold uscG at hR
  clear hhi hmid hmid2 hlo2
  cases hne : (IntKind.u64.wrap ((hi : Int) / 2 ^ s * 2 ^ s) != (hi : Int))
  · rw [hne, if_neg (by decide)] at hR
    have HR := Lib.hid hR
    clear hR
    go_enter Tryz.func126, Tryz.ntmps126
    go_wp2_with (first
      | (go_at_call 135; (with_reducible refine (Hm1.out _).mono ?_); rintro e w' ⟨rfl, rfl⟩)
      | (go_at_call 135; (with_reducible refine (Hm2.out _).mono ?_); rintro e w' ⟨rfl, rfl⟩)
      | (go_at_call 109; refine (bool2_u64 _ _).mono ?_; rintro e w' ⟨rfl, rfl⟩))
    go_quiet ((go_at_call 109; exact quiet_left (bool2_u64 _ _)))
    go_wp2
    go_ret
    exact ⟨ret_u64 HR.out, _, rfl⟩
  · rw [hne, if_pos rfl] at hR
    have HR := Lib.hid hR
    clear hR
    go_enter Tryz.func126, Tryz.ntmps126
    go_wp2_with (first
      | (go_at_call 135; (with_reducible refine (Hm1.out _).mono ?_); rintro e w' ⟨rfl, rfl⟩))
    go_ret
    exact ⟨ret_u64 HR.out, 0, rfl⟩
end Go.Proofs.YtmfnkilohicapaaGreatDoor
