/- Package lex's 'one' where a digit or a point stands ahead: a number, a duration, or none. -/
import Derived.Test.YtmfnkilohicapaaGreatDoorN
namespace Go.Proofs.YtmfnkilohicapaaGreatDoor
open Go.RowKit

/-- Does a letter, a digit or a point stand at a place? -/
def wordAt (l : List UInt8) (n : Nat) : Bool := match l[n]? with
  | some c => isLet c || (isDig c || (c.toNat : Int) == 46)
  | none => false
theorem wordAt_in (s : ByteArray) (n : Nat) (h : n < s.size) : wordAt s.data.toList n = (isLet s[n] || (isDig s[n] || (s[n].toNat : Int) == 46)) := by
  unfold wordAt; rw [get_list s n h]
theorem wordAt_out (s : ByteArray) (n : Nat) (h : s.size ≤ n) : wordAt s.data.toList n = false := by
  unfold wordAt; rw [List.getElem?_eq_none (by rw [← size_len]; exact h)]
theorem sp_le (lx : Bool) (fr : Nat) (s : ByteArray) (k : Nat) (hk : k ≤ s.size) : k + (sp lx fr (s.data.toList.drop k)).1 ≤ s.size := by
  induction hm : 7 - fr using Nat.strongRecOn generalizing fr k with
  | _ m ih =>
    by_cases hz : rl isDig (s.data.toList.drop k) = 0
    · rw [sp_zero hz]; simpa using hk
    · by_cases hex : ∃ i, uAt ((s.data.toList.drop k).drop (rl isDig (s.data.toList.drop k))) = some i ∧ fr ≤ i ∧ (lx = true → ulen i = rl isLow ((s.data.toList.drop k).drop (rl isDig (s.data.toList.drop k))))
      · obtain ⟨i, hi, hfi, hx⟩ := hex
        have h6 := uAt_le _ _ hi
        rw [sp_some rfl hz hi hfi hx]
        rw [List.drop_drop] at hi ⊢
        have hl := uAt_len s _ i hi
        have := ih (7 - (i + 1)) (by omega) (i + 1) (k + (rl isDig (s.data.toList.drop k) + ulen i)) (by omega) rfl
        simp only []
        omega
      · rw [sp_none (fun i hi hfi hx => hex ⟨i, hi, hfi, hx⟩)]; simpa using hk
theorem expLen_le (s : ByteArray) (n : Nat) (hn : n ≤ s.size) : expLen s.data.toList n ≤ s.size := by
  unfold expLen
  split
  · rename_i h
    have hlt := isAt_lt s n _ _ h
    split
    · unfold expAt
      split
      · rename_i h2
        have := isAt_lt s (n + 1) _ _ h2
        exact rl_drop_le isDig s (n + 2) (by omega)
      · exact rl_drop_le isDig s (n + 1) (by omega)
    · omega
  · omega
theorem numLen_le (s : ByteArray) : numLen s.data.toList ≤ s.size := by
  unfold numLen
  split
  · rename_i h
    unfold hexLen at h ⊢
    split at h
    · rename_i h2
      simp only [Bool.and_eq_true] at h2
      have := isAt_lt s 1 _ _ h2.2
      rw [if_pos (by simp [h2])]
      exact rl_drop_le isHex s 2 (by omega)
    · omega
  · split
    · omega
    · apply expLen_le
      have h0 := rl_drop_le isDig s 0 (by omega)
      rw [List.drop_zero] at h0
      unfold mantLen
      split
      · omega
      · unfold fracLen
        split
        · rename_i h2
          have := isAt_lt s _ _ _ h2
          have := rl_drop_le isDig s (rl isDig s.data.toList + 1) (by omega)
          omega
        · omega

theorem frozen_new (w : World) (t : TypeId) (cs : Array Value) (j : Nat) : (w.alloc (.cells cs t)).frozen? ⟨w.heap.size, j, none⟩ = false := by
  unfold World.frozen?
  rw [heap_alloc_new]
  simp
def tok (k : Int) (t : ByteArray) : Value := .agg #[.int .i64 k, .string t, .int .i64 0]
/-- What 'one' answers where a digit or a point stands ahead. -/
def numKind (l : List UInt8) : Int := if numLen l < (sp true 0 l).1 then 3 else 2
def numEnd (l : List UInt8) : Nat := if numLen l < (sp true 0 l).1 then (sp true 0 l).1 else numLen l
theorem numEnd_le (s : ByteArray) : numEnd s.data.toList ≤ s.size := by
  unfold numEnd
  have h1 := numLen_le s
  have h2 := sp_le true 0 s 0 (by omega)
  rw [List.drop_zero] at h2
  split <;> omega
set_option maxHeartbeats 8000000 in
set_option maxRecDepth 100000 in
theorem lex_one_num (s : ByteArray) (h1 : 0 < s.size) (hs : s.size ≤ 140737488351232) (hc : isLet s[0] = false) (hd : isDig s[0] = true ∨ (s[0].toNat : Int) = 46) (w : World) :
    Calls Tryz.prog 26 #[.string s] w fun e w' => e = .returned (if wordAt s.data.toList (numEnd s.data.toList) then .tuple #[tok 0 ⟨#[]⟩, .int .i64 0] else .tuple #[tok (numKind s.data.toList) (s.extract 0 (numEnd s.data.toList)), .int .i64 (numEnd s.data.toList)]) ∧ Below w.heap.size w w' := by
  have h1' : (0 : Int) < (s.size : Int) := by omega
  obtain ⟨c, hc0⟩ : ∃ c, s[0] = c := ⟨_, rfl⟩
  rw [hc0] at hc hd
  have Hc := Lib.hid hc
  have Hd := Lib.hid hd
  clear hc hd
  have hE := numEnd_le s
  have hN := numLen_le s
  obtain ⟨N, hNN⟩ : ∃ N, numLen s.data.toList = N := ⟨_, rfl⟩
  obtain ⟨m, hm⟩ : ∃ m, (sp true 0 s.data.toList).1 = m := ⟨_, rfl⟩
  obtain ⟨S, hS⟩ : ∃ S, capn (sp true 0 s.data.toList).2 = S := ⟨_, rfl⟩
  obtain ⟨E, hEE⟩ : ∃ E, numEnd s.data.toList = E := ⟨_, rfl⟩
  obtain ⟨K, hK⟩ : ∃ K, numKind s.data.toList = K := ⟨_, rfl⟩
  have hspan := fun wx => lex_span s wx (by omega)
  have hnum := fun wx => lex_number s wx (by omega)
  rw [hm, hS] at hspan
  rw [hNN] at hnum
  have hE2 : E = if N < m then m else N := by rw [← hEE, numEnd, hNN, hm]
  have hK2 : K = if N < m then 3 else 2 := by rw [← hK, numKind, hNN, hm]
  rw [hEE, hK]
  rw [hEE] at hE
  have Hspan := Lib.hid hspan
  have Hnum := Lib.hid hnum
  have HE2 := Lib.hid hE2
  have HK2 := Lib.hid hK2
  clear hspan hnum hE2 hK2 hNN hm hS hEE hK hN
  have hd46 : isDig c = false → ((c.toNat : Int) == 46) = true := fun h => by
    rcases Hd.out with h2 | h2
    · rw [h] at h2; cases h2
    · exact beq_iff_eq.2 h2
  have Hd46 := Lib.hid hd46
  clear hd46
  cases hdd : isDig c
  all_goals
    (try have h46 := Hd46.out hdd)
    have Hdd := Lib.hid hdd
    clear hdd
    go_enter Tryz.func26, Tryz.ntmps26
    go_upto_region 8 with (first
      | (go_at_call 44; refine (lex_letter _ _).mono ?_; rintro e w' ⟨rfl, rfl⟩; rw [Hc.out])
      | (go_at_call 37; refine (lex_digit _ _).mono ?_; rintro e w' ⟨rfl, rfl⟩; rw [Hdd.out])
      | (go_at_call 46; refine (Hnum.out _).mono ?_; rintro e w' ⟨rfl, rfl⟩)
      | (go_at_call 17; refine (Hspan.out _).mono ?_; rintro e w1 ⟨rfl, hb1⟩))
    have hbw : Below w.heap.size w w1 := ((Below.refl _ _).alloc (Nat.le_refl _) _).trans (hb1.mono (by simp))
    have c0 : w1.cell? ⟨w.heap.size, 0, none⟩ = some (.int .i64 0) := by rw [hb1.cell (by simp)]; simp [World.cell?_alloc_new]
    have c1 : w1.cell? ⟨w.heap.size, 1, none⟩ = some (.string ⟨#[]⟩) := by rw [hb1.cell (by simp)]; simp [World.cell?_alloc_new]
    have c2 : w1.cell? ⟨w.heap.size, 2, none⟩ = some (.int .i64 0) := by rw [hb1.cell (by simp)]; simp [World.cell?_alloc_new]
    have fz : ∀ j, w1.frozen? ⟨w.heap.size, j, none⟩ = false := fun j => by rw [hb1.frozen (by simp)]; exact frozen_new _ _ _ _
    have f0 := fz 0
    have f1 := fz 1
    have f2 := fz 2
    have HBW := Lib.hid hbw
    have hlw0 : w.heap.size < w1.heap.size := by have := hb1.size; simp at this; omega
    clear fz hb1 hbw
    by_cases hlt : N < m
    all_goals
      have hlti : (N : Int) < (m : Int) ∨ ¬ (N : Int) < (m : Int) := by omega
      have he := HE2.out
      have hk := HK2.out
      first
        | (rw [if_pos hlt] at he hk; have hd1 : (N : Int) < (m : Int) := by omega)
        | (rw [if_neg hlt] at he hk; have hd1 : ¬ (N : Int) < (m : Int) := by omega)
      subst he hk
      clear hlt hlti HE2 HK2
      go_upto_region 10 with fail
      go_cut [65] (fun v wc => v = .bool (wordAt s.data.toList E) ∧ w1 = wc)
      case first =>
        by_cases hes : E < s.size
        · have hes' : (E : Int) < (s.size : Int) := by omega
          have hw := wordAt_in s E hes
          obtain ⟨d, hd0⟩ : ∃ d, s[E] = d := ⟨_, rfl⟩
          rw [hd0] at hw
          have HW := Lib.hid hw
          clear hw
          cases ha : isLet d <;> cases hb : isDig d
          all_goals
            have Ha := Lib.hid ha
            have Hb := Lib.hid hb
            clear ha hb
            go_wp2_with (first
              | (go_at_call 44; refine (lex_letter _ _).mono ?_; rintro e w' ⟨rfl, rfl⟩; rw [Ha.out])
              | (go_at_call 37; refine (lex_digit _ _).mono ?_; rintro e w' ⟨rfl, rfl⟩; rw [Hb.out]))
            all_goals
              go_meet
              refine ⟨val_bool ?_, rfl⟩
              rw [HW.out, Ha.out, Hb.out]
              first | rfl | simp [*]
        · have hes' : ¬ (E : Int) < (s.size : Int) := by omega
          have hw := wordAt_out s E (by omega)
          have HW := Lib.hid hw
          clear hw
          go_wp2
          go_meet
          exact ⟨val_bool HW.out.symm, rfl⟩
      case rest =>
        obtain ⟨rfl, rfl⟩ := hcut
        cases hw : wordAt s.data.toList E
        · have hlw : w.heap.size < w1.heap.size := hlw0
          go_wp2
          all_goals
            refine bodyPost_ret (v := .tuple #[tok _ (s.extract 0 E), .int .i64 E]) ?_ rfl ⟨rfl, ?_⟩
            · simp [results, Tryz.results26, go_sem, tok, c0, c1, c2]
            · exact ((HBW.out.setCell (p := ⟨w.heap.size, 0, none⟩) (Nat.le_refl _) _).setCell (p := ⟨w.heap.size, 1, none⟩) (Nat.le_refl _) _).setCell (p := ⟨w.heap.size, 2, none⟩) (Nat.le_refl _) _
        · have hlw : w.heap.size < w1.heap.size := hlw0
          go_wp2
          all_goals
            refine bodyPost_ret (v := .tuple #[tok 0 ⟨#[]⟩, .int .i64 0]) ?_ rfl ⟨rfl, ?_⟩
            · simp [results, Tryz.results26, go_sem, tok, c0, c1, c2]
            · exact ((HBW.out.setCell (p := ⟨w.heap.size, 0, none⟩) (Nat.le_refl _) _).setCell (p := ⟨w.heap.size, 1, none⟩) (Nat.le_refl _) _).setCell (p := ⟨w.heap.size, 2, none⟩) (Nat.le_refl _) _
end Go.Proofs.YtmfnkilohicapaaGreatDoor

/- Package lex's 'one' where no digit and no point stands ahead: a name, a text, a sign, or none. -/
namespace Go.Proofs.YtmfnkilohicapaaGreatDoor
open Go.RowKit

def signsL : List (List UInt8) := [[33, 61], [61, 126], [33, 126], [61, 61], [62, 61], [60, 61], [40], [41], [123], [125], [91], [93], [44], [61], [43], [45], [42], [47], [37], [94], [62], [60]]
def signCells : Array Value := #[.string ⟨#[33, 61]⟩, .string ⟨#[61, 126]⟩, .string ⟨#[33, 126]⟩, .string ⟨#[61, 61]⟩, .string ⟨#[62, 61]⟩, .string ⟨#[60, 61]⟩, .string ⟨#[40]⟩, .string ⟨#[41]⟩, .string ⟨#[123]⟩, .string ⟨#[125]⟩, .string ⟨#[91]⟩, .string ⟨#[93]⟩, .string ⟨#[44]⟩, .string ⟨#[61]⟩, .string ⟨#[43]⟩, .string ⟨#[45]⟩, .string ⟨#[42]⟩, .string ⟨#[47]⟩, .string ⟨#[37]⟩, .string ⟨#[94]⟩, .string ⟨#[62]⟩, .string ⟨#[60]⟩]
def signsObj : Obj := .cells signCells 9
theorem lex_signs (w : World) : Calls Tryz.prog 48 #[] w fun e w' => e = .returned (.slice (some ⟨w.heap.size, 0, none⟩) 22 22) ∧ w' = w.alloc signsObj := by
  go_enter Tryz.func48, Tryz.ntmps48
  go_wp2
  go_ret
  exact ⟨rfl, rfl⟩
theorem ref_signs (w : World) : Calls Tryz.prog 92 #[] w fun e w' => e = .returned (.slice (some ⟨w.heap.size, 0, none⟩) 22 22) ∧ w' = w.alloc signsObj := by
  go_enter Tryz.func92, Tryz.ntmps92
  go_wp2
  go_ret
  exact ⟨rfl, rfl⟩
theorem signCells_at (i : Nat) (h : i < 22) : signCells[i]? = some (.string ⟨(signsL.getD i []).toArray⟩) := by
  rcases (by omega : i = 0 ∨ i = 1 ∨ i = 2 ∨ i = 3 ∨ i = 4 ∨ i = 5 ∨ i = 6 ∨ i = 7 ∨ i = 8 ∨ i = 9 ∨ i = 10 ∨ i = 11 ∨ i = 12 ∨ i = 13 ∨ i = 14 ∨ i = 15 ∨ i = 16 ∨ i = 17 ∨ i = 18 ∨ i = 19 ∨ i = 20 ∨ i = 21) with rfl | rfl | rfl | rfl | rfl | rfl | rfl | rfl | rfl | rfl | rfl | rfl | rfl | rfl | rfl | rfl | rfl | rfl | rfl | rfl | rfl | rfl <;> rfl
theorem signs_ne (i : Nat) (h : i < 22) : (signsL.getD i []).length ≤ 2 := by
  rcases (by omega : i = 0 ∨ i = 1 ∨ i = 2 ∨ i = 3 ∨ i = 4 ∨ i = 5 ∨ i = 6 ∨ i = 7 ∨ i = 8 ∨ i = 9 ∨ i = 10 ∨ i = 11 ∨ i = 12 ∨ i = 13 ∨ i = 14 ∨ i = 15 ∨ i = 16 ∨ i = 17 ∨ i = 18 ∨ i = 19 ∨ i = 20 ∨ i = 21) with rfl | rfl | rfl | rfl | rfl | rfl | rfl | rfl | rfl | rfl | rfl | rfl | rfl | rfl | rfl | rfl | rfl | rfl | rfl | rfl | rfl | rfl <;> decide
/-- The sign that stands ahead. -/
def signOf (l : List UInt8) : Option (List UInt8) := signsL.find? (fun x => Lib.hasPrefix l x)
def signRes (l : List UInt8) : Value := match signOf l with
  | some x => .tuple #[tok 5 ⟨x.toArray⟩, .int .i64 x.length]
  | none => .tuple #[tok 0 ⟨#[]⟩, .int .i64 0]
theorem find_step (l : List UInt8) (i : Nat) (h : i < 22) (x : List UInt8) (hx : signsL.getD i [] = x) : (signsL.drop i).find? (fun x => Lib.hasPrefix l x) = if Lib.hasPrefix l x then some x else (signsL.drop (i + 1)).find? (fun x => Lib.hasPrefix l x) := by
  have hl : i < signsL.length := h
  have hg : signsL[i] = x := by rw [← hx, List.getD_eq_getElem?_getD, List.getElem?_eq_getElem hl]; rfl
  rw [List.drop_eq_getElem_cons hl, List.find?_cons, hg]
  split <;> simp_all
theorem cell_first (w : World) (cs : Array Value) (o : Obj) (t : TypeId) (j : Nat) (v : Value) (h : cs[j]? = some v) : ((w.alloc (.cells cs t)).alloc o).cell? ⟨w.heap.size, j, none⟩ = some v := by
  have : Below (w.heap.size + 1) (w.alloc (.cells cs t)) ((w.alloc (.cells cs t)).alloc o) := (Below.refl _ _).alloc (by simp) _
  rw [this.cell (by simp)]
  simp [World.cell?_alloc_new, h]
theorem cell_second (w : World) (o : Obj) (cs : Array Value) (t : TypeId) (j : Nat) (v : Value) (h : cs[j]? = some v) : ((w.alloc o).alloc (.cells cs t)).cell? ⟨w.heap.size + 1, j, none⟩ = some v := by
  have h2 := World.cell?_alloc_new (w.alloc o) cs t j
  simp only [World.size_alloc] at h2
  rw [h2, h]
/-- The first byte is no letter, no digit, no point, no quote. -/
def plainByte (c : UInt8) : Bool := !(isLet c) && !(isDig c) && !((c.toNat : Int) == 46) && !((c.toNat : Int) == 34) && !((c.toNat : Int) == 39)
set_option maxHeartbeats 8000000 in
set_option maxRecDepth 100000 in
theorem lex_one_sign (s : ByteArray) (h1 : 0 < s.size) (hs : s.size ≤ 140737488351232) (hc : plainByte s[0] = true) (w : World) :
    Calls Tryz.prog 26 #[.string s] w fun e w' => e = .returned (signRes s.data.toList) ∧ Below w.heap.size w w' := by
  have h1' : (0 : Int) < (s.size : Int) := by omega
  obtain ⟨c, hc0⟩ : ∃ c, s[0] = c := ⟨_, rfl⟩
  rw [hc0] at hc
  simp only [plainByte, Bool.and_eq_true, Bool.not_eq_true'] at hc
  obtain ⟨⟨⟨⟨ha, hb⟩, e1⟩, e2⟩, e3⟩ := hc
  have Ha := Lib.hid ha
  have Hb := Lib.hid hb
  clear ha hb
  go_enter Tryz.func26, Tryz.ntmps26
  go_wp2_with (first
    | (go_at_call 44; refine (lex_letter _ _).mono ?_; rintro e w' ⟨rfl, rfl⟩; rw [Ha.out])
    | (go_at_call 37; refine (lex_digit _ _).mono ?_; rintro e w' ⟨rfl, rfl⟩; rw [Hb.out])
    | (go_at_call 48; refine (lex_signs _).mono ?_; rintro e w' ⟨rfl, rfl⟩))
  obtain ⟨wq, hwq⟩ : ∃ wq, (w.alloc (Obj.cells #[Value.int IntKind.i64 0, Value.string { data := #[] }, Value.int IntKind.i64 0] 64)).alloc signsObj = wq := ⟨_, rfl⟩
  have hsc : ∀ i, i < 22 → wq.cell? ⟨w.heap.size + 1, i, none⟩ = some (.string ⟨(signsL.getD i []).toArray⟩) := fun i hi => by
    rw [← hwq]
    exact cell_second w _ _ 9 i _ (signCells_at i hi)
  have hB : Below w.heap.size w wq := by
    rw [← hwq]
    exact ((Below.refl _ _).alloc (Nat.le_refl _) _).alloc (by simp) _
  have hlw : w.heap.size < wq.heap.size := by rw [← hwq, World.size_alloc, World.size_alloc]; omega
  have c0 : wq.cell? ⟨w.heap.size, 0, none⟩ = some (.int .i64 0) := by rw [← hwq]; exact cell_first w _ _ 64 _ _ rfl
  have c1 : wq.cell? ⟨w.heap.size, 1, none⟩ = some (.string ⟨#[]⟩) := by rw [← hwq]; exact cell_first w _ _ 64 _ _ rfl
  have c2 : wq.cell? ⟨w.heap.size, 2, none⟩ = some (.int .i64 0) := by rw [← hwq]; exact cell_first w _ _ 64 _ _ rfl
  have fz : ∀ j, wq.frozen? ⟨w.heap.size, j, none⟩ = false := fun j => by
    rw [← hwq]
    have : Below (w.heap.size + 1) (w.alloc (Obj.cells #[Value.int IntKind.i64 0, Value.string { data := #[] }, Value.int IntKind.i64 0] 64)) ((w.alloc (Obj.cells #[Value.int IntKind.i64 0, Value.string { data := #[] }, Value.int IntKind.i64 0] 64)).alloc signsObj) := (Below.refl _ _).alloc (by simp) _
    rw [this.frozen (by simp)]; exact frozen_new _ _ _ _
  have f0 := fz 0
  have f1 := fz 1
  have f2 := fz 2
  rw [hwq]
  have HSC := Lib.hid hsc
  have HB := Lib.hid hB
  clear hsc hB hwq fz
  go_loop [13, 90] (fun _ v90 => ∃ i : Nat, i ≤ 22 ∧ v90 = .int .i64 i ∧ Hid (signOf s.data.toList = (signsL.drop i).find? (fun x => Lib.hasPrefix s.data.toList x))) (fun _ v90 => 22 - (intOf v90).toNat)
  case atStart => exact ⟨0, by omega, rfl, Lib.hid rfl⟩
  case round =>
    obtain ⟨i, hi, rfl, HF⟩ := hrel
    by_cases hlt : i < 22
    · have hlt' : (i : Int) < 22 := by omega
      have hcell := HSC.out i hlt
      have hlen := signs_ne i hlt
      have hfs := fun x hx => find_step s.data.toList i hlt x hx
      obtain ⟨x, hx⟩ : ∃ x, signsL.getD i [] = x := ⟨_, rfl⟩
      rw [hx] at hcell hlen
      have hf2 := hfs x hx
      clear hfs hx
      have HF2 := Lib.hid hf2
      clear hf2
      have hxs : (⟨x.toArray⟩ : ByteArray).size = x.length := by simp [ByteArray.size]
      obtain ⟨X, hX⟩ : ∃ X : ByteArray, (⟨x.toArray⟩ : ByteArray) = X := ⟨_, rfl⟩
      rw [hX] at hcell hxs
      have hXl : X.data.toList = x := by rw [← hX]
      have HX := Lib.hid hX
      have HXs := Lib.hid hxs
      have HXl := Lib.hid hXl
      clear hX hxs hXl
      cases hp : Lib.hasPrefix s.data.toList x
      · have Hp := Lib.hid hp
        clear hp
        go_wp2_with (go_at_call 32; refine (strings_HasPrefix _ _ _).mono ?_; rintro e w' ⟨rfl, rfl⟩; rw [HXl.out, Hp.out])
        go_round
        case rel =>
          refine ⟨i + 1, by omega, by go_num, ?_⟩
          apply Lib.hid
          rw [HF.out, HF2.out, if_neg (by rw [Hp.out]; decide)]
        case measure => (simp [intOf] <;> omega)
      · have Hp := Lib.hid hp
        clear hp
        go_wp2_with (go_at_call 32; refine (strings_HasPrefix _ _ _).mono ?_; rintro e w' ⟨rfl, rfl⟩; rw [HXl.out, Hp.out])
        refine bodyPost_ret (v := .tuple #[tok 5 X, .int .i64 X.size]) ?_ rfl ⟨?_, ?_⟩
        · simp [results, Tryz.results26, go_sem, tok, c0, c1, c2]
        · rw [signRes, HF.out, HF2.out, if_pos Hp.out]
          simp only [HX.out, HXs.out]
        · exact ((HB.out.setCell (p := ⟨w.heap.size, 0, none⟩) (Nat.le_refl _) _).setCell (p := ⟨w.heap.size, 1, none⟩) (Nat.le_refl _) _).setCell (p := ⟨w.heap.size, 2, none⟩) (Nat.le_refl _) _
    · obtain rfl : i = 22 := by omega
      go_wp2
      refine bodyPost_ret (v := .tuple #[tok 0 ⟨#[]⟩, .int .i64 0]) ?_ rfl ⟨?_, ?_⟩
      · simp [results, Tryz.results26, go_sem, tok, c0, c1, c2]
      · rw [signRes, HF.out]; rfl
      · exact ((HB.out.setCell (p := ⟨w.heap.size, 0, none⟩) (Nat.le_refl _) _).setCell (p := ⟨w.heap.size, 1, none⟩) (Nat.le_refl _) _).setCell (p := ⟨w.heap.size, 2, none⟩) (Nat.le_refl _) _
end Go.Proofs.YtmfnkilohicapaaGreatDoor
