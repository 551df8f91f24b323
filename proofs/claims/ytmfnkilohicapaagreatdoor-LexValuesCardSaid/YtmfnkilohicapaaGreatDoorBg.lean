/- The reference's 'tens'; the plain words of its 'decimal'. -/
import Derived.Test.YtmfnkilohicapaaGreatDoorBf
namespace Go.Proofs.YtmfnkilohicapaaGreatDoor
open Go.RowKit

/-- What 'tens' gathers: a minus sign, the digits' number. -/
def tensOf (y : List UInt8) : Bool × Nat := (y.contains 45, foldCap (y.filter isDig))
theorem tensOf_snoc (y : List UInt8) (c : UInt8) : tensOf (y ++ [c]) = ((tensOf y).1 || (c == 45), if isDig c then min (10 * (tensOf y).2 + (c.toNat - 48)) 1099511627776 else (tensOf y).2) := by
  unfold tensOf
  refine Prod.ext ?_ ?_
  · show (y ++ [c]).contains 45 = (y.contains 45 || (c == 45))
    rw [List.contains_append, List.contains_cons, List.contains_nil, Bool.or_false, BEq.comm]
  · simp only [List.filter_append, List.filter_cons, List.filter_nil]
    cases isDig c
    · simp
    · simp only [if_true, foldCap_snoc]
theorem tensOf_le (y : List UInt8) : (tensOf y).2 ≤ 1099511627776 := foldCap_le _
theorem tens_dec {l W Pt : List UInt8} {point ex : Bool} {e : UInt8} {sg ds : List UInt8} (h : DecOf l W Pt point ex e sg ds) : tensOf (sg ++ ds) = (decide (sg = [45]), foldCap ds) := by
  have hf : ds.filter isDig = ds := List.filter_eq_self.2 h.dig
  have hc : ds.contains 45 = false := by
    refine (Bool.not_eq_true _).mp (fun hh => ?_)
    rw [List.contains_iff_mem] at hh
    exact absurd (h.dig 45 hh) (by decide)
  unfold tensOf
  have h43 : isDig 43 = false := by decide
  have h45 : isDig 45 = false := by decide
  rcases h.sign with h1 | h1 | h1
  · rw [h1, List.nil_append, hf, hc]; rfl
  · rw [h1, List.filter_append, hf, List.contains_append, hc]; simp [h43]
  · rw [h1, List.filter_append, hf, List.contains_append, hc]; simp [h45]
set_option maxHeartbeats 4000000 in
set_option maxRecDepth 100000 in
theorem ref_tens (x : ByteArray) (hx : x.size ≤ 140737488355328) (w : World) :
    Calls Tryz.prog 35 #[.string x] w fun e w' => e = .returned (.int .i64 (if (tensOf (x.data.toList.drop 1)).1 then -((tensOf (x.data.toList.drop 1)).2 : Int) else ((tensOf (x.data.toList.drop 1)).2 : Int))) ∧ w = w' := by
  obtain ⟨m, hm⟩ : ∃ m, (tensOf (x.data.toList.drop 1)).1 = m := ⟨_, rfl⟩
  obtain ⟨N, hN⟩ : ∃ N, (tensOf (x.data.toList.drop 1)).2 = N := ⟨_, rfl⟩
  obtain ⟨R, hR⟩ : ∃ R : Int, (if m = true then -(N : Int) else (N : Int)) = R := ⟨_, rfl⟩
  rw [hm, hN, hR]
  have hR1 : m = true → R = -(N : Int) := fun h => by rw [← hR, if_pos h]
  have hR2 : m = false → R = (N : Int) := fun h => by rw [← hR, if_neg (by rw [h]; decide)]
  have Hm := Lib.hid hm
  have HN := Lib.hid hN
  have HR1 := Lib.hid hR1
  have HR2 := Lib.hid hR2
  clear hm hN hR hR1 hR2
  go_enter Tryz.func35, Tryz.ntmps35
  go_wp2
  go_loop [3, 4, 5] (fun v3 v4 v5 => ∃ i : Nat, 1 ≤ i ∧ (i ≤ x.size ∨ i = 1) ∧ v5 = .int .i64 i ∧ v4 = .bool (tensOf ((x.data.toList.drop 1).take (i - 1))).1 ∧ v3 = .int .i64 (tensOf ((x.data.toList.drop 1).take (i - 1))).2) (fun _ _ v5 => x.size - (intOf v5).toNat)
  case atStart => exact ⟨1, by omega, Or.inr rfl, rfl, rfl, rfl⟩
  case round =>
    obtain ⟨i, hi1, hi2, rfl, rfl, rfl⟩ := hrel
    have hle := tensOf_le ((x.data.toList.drop 1).take (i - 1))
    by_cases hlt : i < x.size
    · have hlt' : (i : Int) < (x.size : Int) := by omega
      have hstep : (x.data.toList.drop 1).take (i + 1 - 1) = (x.data.toList.drop 1).take (i - 1) ++ [x[i]] := by
        rw [show i + 1 - 1 = (i - 1) + 1 by omega, List.take_succ_eq_append_getElem (by rw [List.length_drop, ← size_len]; omega)]
        congr 2
        simp
        simp only [show i - 1 + 1 = i by omega]
        rfl
      have hs2 := tensOf_snoc ((x.data.toList.drop 1).take (i - 1)) x[i]
      rw [← hstep] at hs2
      obtain ⟨c, hc⟩ : ∃ c, x[i] = c := ⟨_, rfl⟩
      rw [hc] at hs2
      obtain ⟨b, hb⟩ : ∃ b, (tensOf ((x.data.toList.drop 1).take (i - 1))).1 = b := ⟨_, rfl⟩
      obtain ⟨n, hn⟩ : ∃ n, (tensOf ((x.data.toList.drop 1).take (i - 1))).2 = n := ⟨_, rfl⟩
      rw [hb, hn] at hs2
      rw [hn] at hle
      rw [hb, hn]
      have Hs2 := Lib.hid hs2
      have hbe : (c == 45) = ((c.toNat : Int) == 45) := by
        rw [Bool.eq_iff_iff, beq_iff_eq, beq_iff_eq]
        constructor
        · rintro rfl; rfl
        · intro h; exact byte_of (n := 45) (by decide) (by omega)
      have Hbe := Lib.hid hbe
      clear hs2 hstep hb hn hbe
      cases b
      all_goals cases h45 : ((c.toNat : Int) == 45)
      all_goals cases hd : isDig c
      all_goals
        have hdn : isDig c = true → (48 : Int) ≤ (c.toNat : Int) ∧ (c.toNat : Int) ≤ 57 := fun h => (isDig_iff c).1 h
        rw [hd] at hdn
        have Hd := Lib.hid hd
        have Hdn := Lib.hid hdn
        clear hd hdn
        first
          | (obtain ⟨hd3, hd4⟩ := Hdn.out rfl)
          | skip
        go_wp2_with (go_at_call 40; refine (ref_digit _ _).mono ?_; rintro e w' ⟨rfl, rfl⟩; rw [Hd.out])
        go_round
        case rel =>
          refine ⟨i + 1, by omega, Or.inl (by omega), by go_num, by rw [Hs2.out, Hbe.out, h45]; rfl, ?_⟩
          rw [Hs2.out, Hd.out]
          first
            | rfl
            | (simp only [if_true]; congr 1; omega)
        case measure => (simp [intOf] <;> omega)
    · have hlt' : ¬ (i : Int) < (x.size : Int) := by omega
      have hall : (x.data.toList.drop 1).take (i - 1) = x.data.toList.drop 1 := List.take_of_length_le (by rw [List.length_drop, ← size_len]; omega)
      rw [hall] at hle ⊢
      rw [Hm.out, HN.out]
      rw [HN.out] at hle
      clear hall
      cases m
      · go_wp2
        go_ret
        exact ⟨ret_int (HR2.out (by trivial)).symm, rfl⟩
      · go_wp2
        go_ret
        exact ⟨ret_int (HR1.out (by trivial)).symm, rfl⟩
/-- One byte of the mantissa. -/
def refStep (t : List UInt8 × Int × Bool) (c : UInt8) : List UInt8 × Int × Bool :=
  if c == 46 then (t.1, t.2.1, true) else if c == 48 && t.1.isEmpty then (t.1, (if t.2.2 then t.2.1 - 1 else t.2.1), t.2.2) else (t.1 ++ [c], (if t.2.2 then t.2.1 else t.2.1 + 1), t.2.2)
theorem fold_ne (l : List UInt8) (hl : AllDig l) (d : List UInt8) (hd : d ≠ []) (a : Int) (p : Bool) : l.foldl refStep (d, a, p) = (d ++ l, (if p then a else a + l.length), p) := by
  induction l generalizing d a with
  | nil => simp
  | cons c r ih =>
    have h1 := dig_num (hl c (List.mem_cons_self ..))
    have he : d.isEmpty = false := by cases d; exact absurd rfl hd; rfl
    rw [List.foldl_cons]
    have : refStep (d, a, p) c = (d ++ [c], (if p then a else a + 1), p) := by
      unfold refStep; rw [h1.1, he]; simp
    rw [this, ih (fun x hx => hl x (List.mem_cons_of_mem _ hx)) _ (by simp)]
    cases p
    · simp; omega
    · simp
theorem fold_e (l : List UInt8) (hl : AllDig l) (a : Int) (p : Bool) : l.foldl refStep ([], a, p) = (l.dropWhile (· == 48), (if p then a - ((l.length : Int) - (l.dropWhile (· == 48)).length) else a + (l.dropWhile (· == 48)).length), p) := by
  induction l generalizing a with
  | nil => cases p <;> simp
  | cons c r ih =>
    have hr : AllDig r := fun x hx => hl x (List.mem_cons_of_mem _ hx)
    have h1 := dig_num (hl c (List.mem_cons_self ..))
    rw [List.foldl_cons]
    cases h48 : c == 48
    · have : refStep ([], a, p) c = ([c], (if p then a else a + 1), p) := by
        unfold refStep; rw [h1.1, h48]; simp
      rw [this, fold_ne r hr _ (by simp)]
      simp only [List.dropWhile_cons, h48]
      cases p
      · simp; omega
      · simp
    · have : refStep ([], a, p) c = ([], (if p then a - 1 else a), p) := by
        unfold refStep; rw [h1.1, h48]; simp
      rw [this, ih hr]
      simp only [List.dropWhile_cons, h48]
      cases p
      · simp
      · simp; omega
theorem while_all (p : UInt8 → Bool) (l : List UInt8) : ∀ c ∈ l.takeWhile p, p c = true := by
  induction l with
  | nil => intro c hc; cases hc
  | cons a r ih =>
    intro c hc
    rw [List.takeWhile_cons] at hc
    cases h : p a
    · rw [h] at hc; cases hc
    · rw [h] at hc
      rcases List.mem_cons.1 hc with rfl | hc
      · exact h
      · exact ih c hc
theorem fold_mant {l W Pt : List UInt8} {point ex : Bool} {e : UInt8} {sg ds : List UInt8} (h : DecOf l W Pt point ex e sg ds) : (mant W Pt point).foldl refStep ([], 0, false) = (dig0 W Pt, ((dig0 W Pt).length : Int) - Pt.length, point) := by
  unfold mant ptOf dig0
  rw [List.foldl_append, fold_e W h.whole]
  cases point
  · rw [h.nopart rfl]; simp
  · simp only [if_true, List.foldl_cons, Bool.false_eq_true, if_false]
    have h46 : ∀ d a, refStep (d, a, false) 46 = (d, a, true) := fun d a => rfl
    rw [h46]
    by_cases h0 : W.dropWhile (· == 48) = []
    · have hall : ∀ x ∈ W, (x == 48) = true := by
        intro x hx
        cases hx48 : x == 48
        · exfalso
          have : x ∈ W.takeWhile (· == 48) ++ W.dropWhile (· == 48) := by rw [List.takeWhile_append_dropWhile]; exact hx
          rw [h0, List.append_nil] at this
          have := while_all _ _ _ this
          rw [hx48] at this; cases this
        · rfl
      rw [h0, fold_e Pt h.part, List.dropWhile_append_of_pos hall]
      simp
      omega
    · rw [fold_ne Pt h.part _ h0]
      have h2 : (W ++ Pt).dropWhile (· == 48) = W.dropWhile (· == 48) ++ Pt := by
        rw [List.dropWhile_append]
        cases hw : W.dropWhile (· == 48) with
        | nil => exact absurd hw h0
        | cons a r => rfl
      rw [h2]
      simp
end Go.Proofs.YtmfnkilohicapaaGreatDoor
