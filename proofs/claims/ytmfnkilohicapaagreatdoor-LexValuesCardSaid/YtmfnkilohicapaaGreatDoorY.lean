/- The reference's 'one' at the head of a text, as far as 'alone' asks. -/
import Derived.Test.YtmfnkilohicapaaGreatDoorX
namespace Go.Proofs.YtmfnkilohicapaaGreatDoor
open Go.RowKit

/-- What the reference's 'one' answers, as far as 'alone' asks. -/
def RefOne (s : ByteArray) (e : Ending) : Prop := ∃ (k n : Int) (t : ByteArray) (b : Bool), e = .returned (.tuple #[.agg #[.int .i64 k, .string t, .int .i64 0], .int .i64 n, .bool b]) ∧ ∀ kind, kind = 2 ∨ kind = 3 → (b && (n == (s.size : Int) && k == kind)) = numOk s.data.toList kind
theorem RefOne.bad {s : ByteArray} {c : UInt8} (hget : s.data.toList[0]? = some c) (hd : isDig c = false) (hp : ((c.toNat : Int) == 46) = false) {k n : Int} (hk : k ≠ 2 ∧ k ≠ 3) (t : ByteArray) (b : Bool) : RefOne s (.returned (.tuple #[.agg #[.int .i64 k, .string t, .int .i64 0], .int .i64 n, .bool b])) := by
  refine ⟨k, n, t, b, rfl, fun kind hk2 => ?_⟩
  rw [numOk_first _ kind _ hget hd hp]
  have : (k == kind) = false := beq_eq_false_iff_ne.2 (by omega)
  rw [this, Bool.and_false, Bool.and_false]
/-- .. where a digit or a point stands ahead. -/
def refKind (l : List UInt8) : Int := if numLen l < (sp false 0 l).1 then 3 else 2
def refEnd (l : List UInt8) : Nat := if numLen l < (sp false 0 l).1 then (sp false 0 l).1 else numLen l
theorem refEnd_le (s : ByteArray) : refEnd s.data.toList ≤ s.size := by
  unfold refEnd
  have h1 := numLen_le s
  have h2 := sp_le false 0 s 0 (by omega)
  rw [List.drop_zero] at h2
  split <;> omega
theorem RefOne.num {s : ByteArray} (h1 : 0 < s.size) : RefOne s (.returned (.tuple #[.agg #[.int .i64 (refKind s.data.toList), .string (s.extract 0 (refEnd s.data.toList)), .int .i64 0], .int .i64 (refEnd s.data.toList), .bool true])) := by
  refine ⟨_, _, _, _, rfl, fun kind hk => ?_⟩
  have hlen := size_len s
  have hro := ref_ok s.data.toList
  have h2 := numLen_le s
  have h3 := sp_le false 0 s 0 (by omega)
  have h4 := sp_le true 0 s 0 (by omega)
  rw [List.drop_zero] at h3 h4
  rw [Bool.true_and, Bool.eq_iff_iff, Bool.and_eq_true, beq_iff_eq, beq_iff_eq]
  unfold numOk refEnd refKind
  rw [decide_eq_true_iff]
  rcases hk with rfl | rfl
  · rw [if_pos rfl]
    split <;> omega
  · rw [if_neg (show ¬ (3 : Int) = 2 by decide), ← hro]
    split <;> omega
theorem RefOne.word {s : ByteArray} (h1 : 0 < s.size) (hE : refEnd s.data.toList = 0 ∨ wordAt s.data.toList (refEnd s.data.toList) = true) : RefOne s (.returned (.tuple #[.agg #[.int .i64 0, .string ⟨#[]⟩, .int .i64 0], .int .i64 0, .bool false])) := by
  refine ⟨_, _, _, _, rfl, fun kind hk => ?_⟩
  have hlen := size_len s
  have hro := ref_ok s.data.toList
  have h2 := numLen_le s
  have h3 := sp_le false 0 s 0 (by omega)
  rw [List.drop_zero] at h3
  have hne : refEnd s.data.toList ≠ s.data.toList.length := fun h => by
    rcases hE with h4 | h4
    · omega
    · rw [wordAt_end _ _ (by omega)] at h4; cases h4
  rw [Bool.false_and]
  symm
  unfold numOk
  refine decide_eq_false ?_
  rw [← hro]
  rintro ⟨a, b⟩
  unfold refEnd at hne
  split at b <;> split at hne <;> omega
set_option maxHeartbeats 8000000 in
set_option maxRecDepth 100000 in
theorem ref_one_letter (s : ByteArray) (h1 : 0 < s.size) (hs : s.size ≤ 140737488351232) (hl : isLet s[0] = true) (w : World) :
    Calls Tryz.prog 34 #[.string s, .int .i64 0] w fun e w' => RefOne s e ∧ Below w.heap.size w w' := by
  have h1' : (0 : Int) < (s.size : Int) := by omega
  have hget := get_list s 0 h1
  obtain ⟨c, hc0⟩ : ∃ c, s[0] = c := ⟨_, rfl⟩
  rw [hc0] at hget hl
  have Hget := Lib.hid hget
  have hd : isDig c = false := (Bool.not_eq_true _).mp (fun h2 => by rw [isDig_iff] at h2; rw [isLet_iff] at hl; omega)
  have hp : ((c.toNat : Int) == 46) = false := beq_eq_false_iff_ne.2 (by rw [isLet_iff] at hl; omega)
  have Hl := Lib.hid hl
  have Hd := Lib.hid hd
  have Hp := Lib.hid hp
  clear hl hd hp hget
  go_enter Tryz.func34, Tryz.ntmps34
  go_wp2_with (go_at_call 64; refine (ref_letter _ _).mono ?_; rintro e w' ⟨rfl, rfl⟩; rw [Hl.out])
  go_loop [8] (fun v8 => ∃ k : Nat, k ≤ s.size ∧ v8 = .int .i64 k) (fun v8 => s.size - (intOf v8).toNat)
  case atStart => exact ⟨0, by omega, rfl⟩
  case round =>
    obtain ⟨k, hk, rfl⟩ := hrel
    by_cases hlt : k < s.size
    · have hlt' : (k : Int) < (s.size : Int) := by omega
      obtain ⟨d, hd⟩ : ∃ d, s[k] = d := ⟨_, rfl⟩
      cases ha : isLet d <;> cases hb : isDig d
      all_goals
        have Ha := Lib.hid ha
        have Hb := Lib.hid hb
        clear ha hb
        go_wp2_with (first
          | (go_at_call 64; refine (ref_letter _ _).mono ?_; rintro e w' ⟨rfl, rfl⟩; rw [Ha.out])
          | (go_at_call 40; refine (ref_digit _ _).mono ?_; rintro e w' ⟨rfl, rfl⟩; rw [Hb.out]))
        first
          | (go_round
             case rel => exact ⟨k + 1, by omega, by go_num⟩
             case measure => (simp [intOf] <;> omega))
          | (refine bodyPost_ret (v := .tuple #[.agg #[.int .i64 1, .string (s.extract 0 k), .int .i64 0], .int .i64 k, .bool true]) ?_ rfl ⟨RefOne.bad Hget.out Hd.out Hp.out (by omega) _ _, ?_⟩
             · simp [results, Tryz.results34, go_sem]
             · exact (Below.refl _ _).alloc (Nat.le_refl _) _)
    · have hlt' : ¬ (k : Int) < (s.size : Int) := by omega
      go_wp2
      refine bodyPost_ret (v := .tuple #[.agg #[.int .i64 1, .string (s.extract 0 k), .int .i64 0], .int .i64 k, .bool true]) ?_ rfl ⟨RefOne.bad Hget.out Hd.out Hp.out (by omega) _ _, ?_⟩
      · simp [results, Tryz.results34, go_sem]
      · exact (Below.refl _ _).alloc (Nat.le_refl _) _
set_option maxHeartbeats 8000000 in
set_option maxRecDepth 100000 in
theorem ref_one_else (s : ByteArray) (h1 : 0 < s.size) (hs : s.size ≤ 140737488351232) (hl : isLet s[0] = false) (w : World) :
    Calls Tryz.prog 34 #[.string s, .int .i64 0] w fun e w' => RefOne s e ∧ Below w.heap.size w w' := by
  have h1' : (0 : Int) < (s.size : Int) := by omega
  have hget := get_list s 0 h1
  obtain ⟨c, hc0⟩ : ∃ c, s[0] = c := ⟨_, rfl⟩
  rw [hc0] at hget hl
  have Hget := Lib.hid hget
  have Hl := Lib.hid hl
  clear hl hget
  have hnum := fun wx => ref_number s 0 (by omega) wx (by omega) (by omega)
  have hspan := fun wx => ref_span s 0 (by omega) wx (by omega) (by omega)
  rw [show (0 : Int).toNat = 0 from rfl, List.drop_zero] at hnum hspan
  simp only [Int.zero_add] at hnum hspan
  have hN1 := @RefOne.num s h1
  have hN2 := @RefOne.word s h1
  have hE := refEnd_le s
  obtain ⟨N, hNN⟩ : ∃ N, numLen s.data.toList = N := ⟨_, rfl⟩
  obtain ⟨m, hm⟩ : ∃ m, (sp false 0 s.data.toList).1 = m := ⟨_, rfl⟩
  obtain ⟨E, hEE⟩ : ∃ E, refEnd s.data.toList = E := ⟨_, rfl⟩
  obtain ⟨K, hK⟩ : ∃ K, refKind s.data.toList = K := ⟨_, rfl⟩
  rw [hm] at hspan
  rw [hNN] at hnum
  have hE2 : E = if N < m then m else N := by rw [← hEE, refEnd, hNN, hm]
  have hK2 : K = if N < m then 3 else 2 := by rw [← hK, refKind, hNN, hm]
  rw [hEE, hK] at hN1
  rw [hEE] at hE hN2
  have HN1 := Lib.hid hN1
  have HN2 := Lib.hid hN2
  have Hspan := Lib.hid hspan
  have Hnum := Lib.hid hnum
  have HE2 := Lib.hid hE2
  have HK2 := Lib.hid hK2
  clear hspan hnum hE2 hK2 hNN hm hEE hK hN1 hN2
  go_enter Tryz.func34, Tryz.ntmps34
  have hB : Below w.heap.size w (w.alloc (.cells #[.int .i64 0, .string ⟨#[]⟩, .int .i64 0] 64)) := (Below.refl _ _).alloc (Nat.le_refl _) _
  have c0 := cell_only w #[.int .i64 0, .string ⟨#[]⟩, .int .i64 0] 64 0 _ rfl
  have c1 := cell_only w #[.int .i64 0, .string ⟨#[]⟩, .int .i64 0] 64 1 _ rfl
  have c2 := cell_only w #[.int .i64 0, .string ⟨#[]⟩, .int .i64 0] 64 2 _ rfl
  have fz := frozen_new w 64 #[.int .i64 0, .string ⟨#[]⟩, .int .i64 0]
  have hlw0 : w.heap.size < (w.alloc (.cells #[.int .i64 0, .string ⟨#[]⟩, .int .i64 0] 64)).heap.size := by rw [World.size_alloc]; omega
  have HB := Lib.hid hB
  clear hB
  go_upto_region 2 with fail
  obtain ⟨wq, hwq⟩ : ∃ wq, w.alloc (.cells #[.int .i64 0, .string ⟨#[]⟩, .int .i64 0] 64) = wq := ⟨_, rfl⟩
  rw [hwq] at HB c0 c1 c2 fz hlw0 ⊢
  clear hwq
  by_cases hq : (c.toNat : Int) = 34 ∨ (c.toNat : Int) = 39
  · have hd : isDig c = false := by
      rcases hq with h | h <;> exact (Bool.not_eq_true _).mp (fun h2 => by rw [isDig_iff] at h2; omega)
    have hp : ((c.toNat : Int) == 46) = false := beq_eq_false_iff_ne.2 (by omega)
    have hqq : ((c.toNat : Int) == 34) = false → ((c.toNat : Int) == 39) = true := fun h => by
      rcases hq with h2 | h2
      · rw [h2] at h; cases h
      · exact beq_iff_eq.2 h2
    have Hd := Lib.hid hd
    have Hp := Lib.hid hp
    clear hd hp hq
    cases hq4 : ((c.toNat : Int) == 34)
    all_goals
      (try have hq9 := hqq hq4)
      go_upto_region 9 with (first
        | (go_at_call 64; refine (ref_letter _ _).mono ?_; rintro e w' ⟨rfl, rfl⟩; rw [Hl.out])
        | (go_at_call 65; refine (ref_text s (by omega) hs _).mono ?_; rintro e w1 ⟨⟨t, k, b, rfl⟩, hb1⟩))
      have c0' := (hb1.cell (p := ⟨w.heap.size, 0, none⟩) hlw0).trans c0
      have c1' := (hb1.cell (p := ⟨w.heap.size, 1, none⟩) hlw0).trans c1
      have c2' := (hb1.cell (p := ⟨w.heap.size, 2, none⟩) hlw0).trans c2
      have f0 := (hb1.frozen (p := ⟨w.heap.size, 0, none⟩) hlw0).trans (fz 0)
      have f1 := (hb1.frozen (p := ⟨w.heap.size, 1, none⟩) hlw0).trans (fz 1)
      have f2 := (hb1.frozen (p := ⟨w.heap.size, 2, none⟩) hlw0).trans (fz 2)
      have HBW := Lib.hid (HB.out.trans (hb1.mono HB.out.size))
      have hlw : w.heap.size < w1.heap.size := Nat.lt_of_lt_of_le hlw0 hb1.size
      clear c0 c1 c2 fz hb1
      go_wp2
      refine bodyPost_ret (v := .tuple #[.agg #[.int .i64 4, .string t, .int .i64 0], .int .i64 k, .bool b]) ?_ rfl ⟨RefOne.bad Hget.out Hd.out Hp.out (by omega) _ _, ?_⟩
      · simp [results, Tryz.results34, go_sem, c0', c1', c2']
      · exact ((HBW.out.setCell (p := ⟨w.heap.size, 0, none⟩) (Nat.le_refl _) _).setCell (p := ⟨w.heap.size, 1, none⟩) (Nat.le_refl _) _).setCell (p := ⟨w.heap.size, 2, none⟩) (Nat.le_refl _) _
  · have hq4 : ((c.toNat : Int) == 34) = false := beq_eq_false_iff_ne.2 (fun h => hq (Or.inl h))
    have hq9 : ((c.toNat : Int) == 39) = false := beq_eq_false_iff_ne.2 (fun h => hq (Or.inr h))
    clear hq
    by_cases hdd : isDig c = true ∨ (c.toNat : Int) = 46
    · have hd46 : isDig c = false → ((c.toNat : Int) == 46) = true := fun h => by
        rcases hdd with h2 | h2
        · rw [h] at h2; cases h2
        · exact beq_iff_eq.2 h2
      have Hd46 := Lib.hid hd46
      clear hd46 hdd
      cases hdd : isDig c
      all_goals
        (try have h46 := Hd46.out hdd)
        have Hdd := Lib.hid hdd
        clear hdd
        go_upto_region 14 with (first
          | (go_at_call 64; refine (ref_letter _ _).mono ?_; rintro e w' ⟨rfl, rfl⟩; rw [Hl.out])
          | (go_at_call 40; refine (ref_digit _ _).mono ?_; rintro e w' ⟨rfl, rfl⟩; rw [Hdd.out])
          | (go_at_call 66; refine (Hnum.out _).mono ?_; rintro e w' ⟨rfl, rfl⟩)
          | (go_at_call 67; refine (Hspan.out _).mono ?_; rintro e w1 ⟨rfl, hb1⟩))
        have c0' := (hb1.cell (p := ⟨w.heap.size, 0, none⟩) hlw0).trans c0
        have c1' := (hb1.cell (p := ⟨w.heap.size, 1, none⟩) hlw0).trans c1
        have c2' := (hb1.cell (p := ⟨w.heap.size, 2, none⟩) hlw0).trans c2
        have f0 := (hb1.frozen (p := ⟨w.heap.size, 0, none⟩) hlw0).trans (fz 0)
        have f1 := (hb1.frozen (p := ⟨w.heap.size, 1, none⟩) hlw0).trans (fz 1)
        have f2 := (hb1.frozen (p := ⟨w.heap.size, 2, none⟩) hlw0).trans (fz 2)
        have HBW := Lib.hid (HB.out.trans (hb1.mono HB.out.size))
        have hlw : w.heap.size < w1.heap.size := Nat.lt_of_lt_of_le hlw0 hb1.size
        clear c0 c1 c2 fz hb1
        by_cases hlt : N < m
        all_goals
          have he := HE2.out
          have hk := HK2.out
          first
            | (rw [if_pos hlt] at he hk; have hd1 : (N : Int) < (m : Int) := by omega)
            | (rw [if_neg hlt] at he hk; have hd1 : ¬ (N : Int) < (m : Int) := by omega)
          subst he hk
          clear hlt HE2 HK2
          go_upto_region 17 with fail
          go_cut [107] (fun v wc => v = .bool (decide (E = 0) || wordAt s.data.toList E) ∧ w1 = wc)
          case first =>
            by_cases hz : E = 0
            · have hz1 : ((E : Int) == 0) = true := beq_iff_eq.2 (by omega)
              have Hz := Lib.hid hz
              clear hz
              go_wp2
              go_meet
              exact ⟨val_bool (by rw [decide_eq_true Hz.out, Bool.true_or]), rfl⟩
            · have hz1 : ((E : Int) == 0) = false := beq_eq_false_iff_ne.2 (by omega)
              have Hz := Lib.hid hz
              clear hz
              by_cases hes : E < s.size
              · have hes' : (E : Int) < (s.size : Int) := by omega
                have hw := wordAt_in s E hes
                obtain ⟨d, hd0⟩ : ∃ d, s[E] = d := ⟨_, rfl⟩
                rw [hd0] at hw
                have HW := Lib.hid hw
                clear hw
                cases ha : isLet d <;> cases hb : isDig d
                all_goals
                  have Ha := Lib.hid ha
                  have Hb := Lib.hid hb
                  clear ha hb
                  go_wp2_with (first
                    | (go_at_call 64; refine (ref_letter _ _).mono ?_; rintro e w' ⟨rfl, rfl⟩; rw [Ha.out])
                    | (go_at_call 40; refine (ref_digit _ _).mono ?_; rintro e w' ⟨rfl, rfl⟩; rw [Hb.out]))
                  all_goals
                    go_meet
                    refine ⟨val_bool ?_, rfl⟩
                    rw [HW.out, Ha.out, Hb.out, decide_eq_false Hz.out]
                    first | rfl | simp [*]
              · have hes' : ¬ (E : Int) < (s.size : Int) := by omega
                have hw := wordAt_out s E (by omega)
                have HW := Lib.hid hw
                clear hw
                go_wp2
                go_meet
                exact ⟨val_bool (by rw [HW.out, decide_eq_false Hz.out]; rfl), rfl⟩
          case rest =>
            obtain ⟨rfl, rfl⟩ := hcut
            cases hw : (decide (E = 0) || wordAt s.data.toList E)
            · have hlw' : w.heap.size < w1.heap.size := hlw
              go_wp2
              all_goals
                refine bodyPost_ret (v := .tuple #[.agg #[.int .i64 _, .string (s.extract 0 E), .int .i64 0], .int .i64 E, .bool true]) ?_ rfl ⟨HN1.out, ?_⟩
                · simp [results, Tryz.results34, go_sem, c0', c1', c2']
                · exact ((HBW.out.setCell (p := ⟨w.heap.size, 0, none⟩) (Nat.le_refl _) _).setCell (p := ⟨w.heap.size, 1, none⟩) (Nat.le_refl _) _).setCell (p := ⟨w.heap.size, 2, none⟩) (Nat.le_refl _) _
            · have hlw' : w.heap.size < w1.heap.size := hlw
              have hw2 : E = 0 ∨ wordAt s.data.toList E = true := by
                rw [Bool.or_eq_true] at hw
                rcases hw with h | h
                · exact Or.inl (of_decide_eq_true h)
                · exact Or.inr h
              have HW2 := Lib.hid hw2
              clear hw2
              go_wp2
              all_goals
                refine bodyPost_ret (v := .tuple #[.agg #[.int .i64 0, .string ⟨#[]⟩, .int .i64 0], .int .i64 0, .bool false]) ?_ rfl ⟨HN2.out HW2.out, ?_⟩
                · simp [results, Tryz.results34, go_sem, c0', c1', c2']
                · exact ((HBW.out.setCell (p := ⟨w.heap.size, 0, none⟩) (Nat.le_refl _) _).setCell (p := ⟨w.heap.size, 1, none⟩) (Nat.le_refl _) _).setCell (p := ⟨w.heap.size, 2, none⟩) (Nat.le_refl _) _
    · have hd : isDig c = false := (Bool.not_eq_true _).mp (fun h => hdd (Or.inl h))
      have hp : ((c.toNat : Int) == 46) = false := beq_eq_false_iff_ne.2 (fun h => hdd (Or.inr h))
      have Hd := Lib.hid hd
      have Hp := Lib.hid hp
      clear hd hdd
      go_upto_region 21 with (first
        | (go_at_call 64; refine (ref_letter _ _).mono ?_; rintro e w' ⟨rfl, rfl⟩; rw [Hl.out])
        | (go_at_call 40; refine (ref_digit _ _).mono ?_; rintro e w' ⟨rfl, rfl⟩; rw [Hd.out])
        | (go_at_call 68; refine (ref_sign s h1 hs _).mono ?_; rintro e w1 ⟨⟨t, rfl⟩, hb1⟩))
      have c0' := (hb1.cell (p := ⟨w.heap.size, 0, none⟩) hlw0).trans c0
      have c1' := (hb1.cell (p := ⟨w.heap.size, 1, none⟩) hlw0).trans c1
      have c2' := (hb1.cell (p := ⟨w.heap.size, 2, none⟩) hlw0).trans c2
      have f0 := (hb1.frozen (p := ⟨w.heap.size, 0, none⟩) hlw0).trans (fz 0)
      have f1 := (hb1.frozen (p := ⟨w.heap.size, 1, none⟩) hlw0).trans (fz 1)
      have f2 := (hb1.frozen (p := ⟨w.heap.size, 2, none⟩) hlw0).trans (fz 2)
      have HBW := Lib.hid (HB.out.trans (hb1.mono HB.out.size))
      have hlw : w.heap.size < w1.heap.size := Nat.lt_of_lt_of_le hlw0 hb1.size
      clear c0 c1 c2 fz hb1
      go_wp2
      all_goals
        refine bodyPost_ret (v := .tuple #[.agg #[.int .i64 5, .string t, .int .i64 0], .int .i64 (wrap64 t.size), .bool (!t.toList.isEmpty)]) ?_ rfl ⟨RefOne.bad Hget.out Hd.out Hp.out (by omega) _ _, ?_⟩
        · simp [results, Tryz.results34, go_sem, c0', c1', c2']
        · exact ((HBW.out.setCell (p := ⟨w.heap.size, 0, none⟩) (Nat.le_refl _) _).setCell (p := ⟨w.heap.size, 1, none⟩) (Nat.le_refl _) _).setCell (p := ⟨w.heap.size, 2, none⟩) (Nat.le_refl _) _
theorem ref_one_for (s : ByteArray) (h1 : 0 < s.size) (hs : s.size ≤ 140737488351232) (w : World) :
    Calls Tryz.prog 34 #[.string s, .int .i64 0] w fun e w' => RefOne s e ∧ Below w.heap.size w w' := by
  cases hl : isLet s[0]
  · exact ref_one_else s h1 hs hl w
  · exact ref_one_letter s h1 hs hl w
end Go.Proofs.YtmfnkilohicapaaGreatDoor
