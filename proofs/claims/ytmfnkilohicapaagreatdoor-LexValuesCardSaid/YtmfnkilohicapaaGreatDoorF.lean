/- The units of durations: both packages' lists, and the reference's 'unit'. -/
import Derived.Test.YtmfnkilohicapaaGreatDoorE
namespace Go.Proofs.YtmfnkilohicapaaGreatDoor
open Go.RowKit

def unitCells : Array Value := #[.string ⟨#[121]⟩, .int .i64 31536000000, .string ⟨#[119]⟩, .int .i64 604800000, .string ⟨#[100]⟩, .int .i64 86400000, .string ⟨#[104]⟩, .int .i64 3600000, .string ⟨#[109]⟩, .int .i64 60000, .string ⟨#[115]⟩, .int .i64 1000, .string ⟨#[109, 115]⟩, .int .i64 1]
def unitsObj (t : TypeId) : Obj := .cells unitCells t
theorem lex_units (w : World) : Calls Tryz.prog 21 #[] w fun e w' => e = .returned (.slice (some ⟨w.heap.size, 0, none⟩) 7 7) ∧ w' = w.alloc (unitsObj 55) := by
  go_enter Tryz.func21, Tryz.ntmps21
  go_wp2
  go_ret
  exact ⟨rfl, rfl⟩
theorem ref_units (w : World) : Calls Tryz.prog 20 #[] w fun e w' => e = .returned (.slice (some ⟨w.heap.size, 0, none⟩) 7 7) ∧ w' = w.alloc (unitsObj 45) := by
  go_enter Tryz.func20, Tryz.ntmps20
  go_wp2
  go_ret
  exact ⟨rfl, rfl⟩
/-- A block of the list of units. -/
structure UnitsAt (w : World) (B : Nat) : Prop where
  cell : ∀ j v, unitCells[j]? = some v → w.cell? ⟨B, j, none⟩ = some v
theorem UnitsAt.new (w : World) (t : TypeId) : UnitsAt (w.alloc (unitsObj t)) w.heap.size := ⟨fun j v h => by
  rw [unitsObj, World.cell?_alloc_new]; exact h⟩
theorem UnitsAt.below {w w' : World} {B C : Nat} (h : UnitsAt w B) (hb : Below C w w') (hB : B < C) : UnitsAt w' B := ⟨fun j v hv => by
  rw [hb.cell (p := ⟨B, j, none⟩) hB]; exact h.cell j v hv⟩

/-- Which unit stands ahead. -/
def uAt : List UInt8 → Option Nat
  | [] => none
  | c :: r => if c == 121 then some 0 else if c == 119 then some 1 else if c == 100 then some 2 else if c == 104 then some 3
    else if c == 109 then (if r.head? == some 115 then some 6 else some 4) else if c == 115 then some 5 else none
def ulen (i : Nat) : Nat := if i = 6 then 2 else 1
def unitIx (l : List UInt8) (from_ : Nat) : Int := match uAt l with
  | some i => if from_ ≤ i then (i : Int) else -1
  | none => -1
theorem uAt_le (l : List UInt8) (i : Nat) (h : uAt l = some i) : i ≤ 6 := by
  unfold uAt at h
  split at h
  · cases h
  · repeat' split at h
    all_goals first | (cases h; omega) | cases h
theorem uAt_0 (l : List UInt8) : uAt l = some 0 ↔ l.take 1 = [121] := by
  rcases l with _ | ⟨c, _ | ⟨d, r⟩⟩
  all_goals
    simp [uAt]
    try (repeat' split)
    all_goals (try simp_all)
theorem uAt_1 (l : List UInt8) : uAt l = some 1 ↔ l.take 1 = [119] := by
  rcases l with _ | ⟨c, _ | ⟨d, r⟩⟩
  all_goals
    simp [uAt]
    try (repeat' split)
    all_goals (try simp_all)
theorem uAt_2 (l : List UInt8) : uAt l = some 2 ↔ l.take 1 = [100] := by
  rcases l with _ | ⟨c, _ | ⟨d, r⟩⟩
  all_goals
    simp [uAt]
    try (repeat' split)
    all_goals (try simp_all)
theorem uAt_3 (l : List UInt8) : uAt l = some 3 ↔ l.take 1 = [104] := by
  rcases l with _ | ⟨c, _ | ⟨d, r⟩⟩
  all_goals
    simp [uAt]
    try (repeat' split)
    all_goals (try simp_all)
theorem uAt_4 (l : List UInt8) : uAt l = some 4 ↔ l.take 1 = [109] ∧ ¬ (l[1]? = some 115) := by
  rcases l with _ | ⟨c, _ | ⟨d, r⟩⟩
  all_goals
    simp [uAt]
    try (repeat' split)
    all_goals (try simp_all)
theorem uAt_5 (l : List UInt8) : uAt l = some 5 ↔ l.take 1 = [115] := by
  rcases l with _ | ⟨c, _ | ⟨d, r⟩⟩
  all_goals
    simp [uAt]
    try (repeat' split)
    all_goals (try simp_all)
theorem uAt_6 (l : List UInt8) : uAt l = some 6 ↔ l.take 2 = [109, 115] := by
  rcases l with _ | ⟨c, _ | ⟨d, r⟩⟩
  all_goals
    simp [uAt]
    try (repeat' split)
    all_goals (try simp_all)
theorem below_drewN_ {B : Nat} {a w : World} (h : Below B a w) (n : Nat) : Below B a (w.drewN n) := ⟨h.os, h.tape, h.output, h.size, h.block⟩
theorem extract_take (s : ByteArray) (p n : Nat) : (s.extract p (p + n)).toList = (s.data.toList.drop p).take n := by
  rw [Lib.extract_toList, Nat.add_sub_cancel_left]
theorem take_size (s : ByteArray) (p n : Nat) (x : List UInt8) (hx : x.length = n) (h : (s.data.toList.drop p).take n = x) (hn : 0 < n) : p + n ≤ s.size := by
  have := congrArg List.length h
  rw [List.length_take, List.length_drop, ← size_len, hx] at this
  omega
theorem unitIx_some {l : List UInt8} {k q : Nat} (h : uAt l = some k) (hq : q ≤ k) : unitIx l q = k := by
  unfold unitIx; rw [h]; simp [hq]
theorem unitIx_none {l : List UInt8} {q : Nat} (h : ∀ j, q ≤ j → j < 7 → uAt l ≠ some j) : unitIx l q = -1 := by
  unfold unitIx
  cases hu : uAt l with
  | none => rfl
  | some i =>
    have h6 := uAt_le l i hu
    simp only []
    split
    · exact absurd hu (h i ‹_› (by omega))
    · rfl
theorem not_next {l : List UInt8} {q k : Nat} (h : ∀ j, q ≤ j → j < k → uAt l ≠ some j) (hk : uAt l ≠ some k) : ∀ j, q ≤ j → j < k + 1 → uAt l ≠ some j := fun j hj hjk => by
  rcases Nat.lt_or_ge j k with h1 | h1
  · exact h j hj h1
  · obtain rfl : j = k := by omega
    exact hk
set_option maxHeartbeats 8000000 in
set_option maxRecDepth 100000 in
theorem ref_unit (s : ByteArray) (a f : Int) (h0 : 0 ≤ a) (hf0 : 0 ≤ f) (w : World) (hs : s.size ≤ 140737488355328) (ha : a ≤ s.size) (hf : f ≤ 7) :
    Calls Tryz.prog 19 #[.string s, .int .i64 a, .int .i64 f] w fun e w' => e = .returned (.int .i64 (unitIx (s.data.toList.drop a.toNat) f.toNat)) ∧ Below w.heap.size w w' := by
  obtain ⟨p, rfl⟩ := Int.eq_ofNat_of_zero_le h0
  obtain ⟨q, rfl⟩ := Int.eq_ofNat_of_zero_le hf0
  rw [Int.toNat_natCast, Int.toNat_natCast]
  have hp : p ≤ s.size := by omega
  clear ha h0
  go_enter Tryz.func19, Tryz.ntmps19
  go_wp2_with (go_at_call 20; refine (ref_units _).mono ?_; rintro e w' ⟨rfl, rfl⟩)
  have hU := UnitsAt.new w 45
  have hB : Below w.heap.size w (w.alloc (unitsObj 45)) := (Below.refl _ _).alloc (Nat.le_refl _) _
  have HU := Lib.hid hU
  have HB := Lib.hid hB
  clear hU hB
  go_loopw [8, 9] (fun i _ wr => ∃ k : Nat, q ≤ k ∧ k ≤ 7 ∧ i = .int .i64 k ∧ Hid (∀ j, q ≤ j → j < k → uAt (s.data.toList.drop p) ≠ some j) ∧ Hid (UnitsAt wr w.heap.size) ∧ Hid (Below w.heap.size w wr)) (fun i _ _ => 7 - (intOf i).toNat)
  case atStart => exact ⟨q, by omega, by omega, rfl, fun j _ _ => by omega, HU, HB⟩
  case round =>
    clear HU HB
    obtain ⟨k, hqk, hk7, rfl, HN, HU, HB⟩ := hrel
    by_cases hk : k < 7
    · have hcases : k = 0 ∨ k = 1 ∨ k = 2 ∨ k = 3 ∨ k = 4 ∨ k = 5 ∨ k = 6 := by omega
      rcases hcases with rfl | rfl | rfl | rfl | rfl | rfl | rfl
      · have c0 : wr.cell? ⟨w.heap.size, 0, none⟩ = some (.string ⟨#[121]⟩) := HU.out.cell 0 _ rfl
        by_cases h1 : p + 1 ≤ s.size
        · have h1' : (1 : Int) ≤ (s.size : Int) - (p : Int) := by omega
          have hx := extract_take s p 1
          cases heq : ((s.extract p (p + 1)).toList == [121])
          · have hne : uAt (s.data.toList.drop p) ≠ some 0 := fun h => by
              have h2 := (uAt_0 _).1 h
              rw [← hx] at h2
              rw [h2] at heq
              simp at heq
            have HH := Lib.hid hne
            clear hne hx
            go_wp2
            go_quiet (fail)
            go_wp2
            go_roundw
            case rel => exact ⟨1, by omega, by omega, by go_num, not_next HN.out HH.out, ⟨fun j v hv => HU.out.cell j v hv⟩, below_drewN_ HB.out _⟩
            case measure => (simp [intOf] <;> omega)
          · have hyes : uAt (s.data.toList.drop p) = some 0 := (uAt_0 _).2 (by rw [← hx]; exact beq_iff_eq.1 heq)
            have hr := unitIx_some hyes hqk
            have HH := Lib.hid hr
            clear hr hx hyes
            go_wp2
            go_quiet (fail)
            go_wp2
            go_ret
            exact ⟨ret_int (by rw [HH.out]; try rfl), below_drewN_ HB.out _⟩
        · have h1' : ¬ (1 : Int) ≤ (s.size : Int) - (p : Int) := by omega
          have h1d : decide ((1 : Int) ≤ (s.size : Int) - (p : Int)) = false := decide_eq_false h1'
          have hne : uAt (s.data.toList.drop p) ≠ some 0 := fun h => h1 (take_size s p 1 [121] rfl ((uAt_0 _).1 h) (by omega))
          have HH := Lib.hid hne
          clear hne
          go_wp2
          go_quiet (fail)
          go_wp2
          go_roundw
          case rel => exact ⟨1, by omega, by omega, by go_num, not_next HN.out HH.out, ⟨fun j v hv => HU.out.cell j v hv⟩, below_drewN_ HB.out _⟩
          case measure => (simp [intOf] <;> omega)
      · have c2 : wr.cell? ⟨w.heap.size, 2, none⟩ = some (.string ⟨#[119]⟩) := HU.out.cell 2 _ rfl
        by_cases h1 : p + 1 ≤ s.size
        · have h1' : (1 : Int) ≤ (s.size : Int) - (p : Int) := by omega
          have hx := extract_take s p 1
          cases heq : ((s.extract p (p + 1)).toList == [119])
          · have hne : uAt (s.data.toList.drop p) ≠ some 1 := fun h => by
              have h2 := (uAt_1 _).1 h
              rw [← hx] at h2
              rw [h2] at heq
              simp at heq
            have HH := Lib.hid hne
            clear hne hx
            go_wp2
            go_quiet (fail)
            go_wp2
            go_roundw
            case rel => exact ⟨2, by omega, by omega, by go_num, not_next HN.out HH.out, ⟨fun j v hv => HU.out.cell j v hv⟩, below_drewN_ HB.out _⟩
            case measure => (simp [intOf] <;> omega)
          · have hyes : uAt (s.data.toList.drop p) = some 1 := (uAt_1 _).2 (by rw [← hx]; exact beq_iff_eq.1 heq)
            have hr := unitIx_some hyes hqk
            have HH := Lib.hid hr
            clear hr hx hyes
            go_wp2
            go_quiet (fail)
            go_wp2
            go_ret
            exact ⟨ret_int (by rw [HH.out]; try rfl), below_drewN_ HB.out _⟩
        · have h1' : ¬ (1 : Int) ≤ (s.size : Int) - (p : Int) := by omega
          have h1d : decide ((1 : Int) ≤ (s.size : Int) - (p : Int)) = false := decide_eq_false h1'
          have hne : uAt (s.data.toList.drop p) ≠ some 1 := fun h => h1 (take_size s p 1 [119] rfl ((uAt_1 _).1 h) (by omega))
          have HH := Lib.hid hne
          clear hne
          go_wp2
          go_quiet (fail)
          go_wp2
          go_roundw
          case rel => exact ⟨2, by omega, by omega, by go_num, not_next HN.out HH.out, ⟨fun j v hv => HU.out.cell j v hv⟩, below_drewN_ HB.out _⟩
          case measure => (simp [intOf] <;> omega)
      · have c4 : wr.cell? ⟨w.heap.size, 4, none⟩ = some (.string ⟨#[100]⟩) := HU.out.cell 4 _ rfl
        by_cases h1 : p + 1 ≤ s.size
        · have h1' : (1 : Int) ≤ (s.size : Int) - (p : Int) := by omega
          have hx := extract_take s p 1
          cases heq : ((s.extract p (p + 1)).toList == [100])
          · have hne : uAt (s.data.toList.drop p) ≠ some 2 := fun h => by
              have h2 := (uAt_2 _).1 h
              rw [← hx] at h2
              rw [h2] at heq
              simp at heq
            have HH := Lib.hid hne
            clear hne hx
            go_wp2
            go_quiet (fail)
            go_wp2
            go_roundw
            case rel => exact ⟨3, by omega, by omega, by go_num, not_next HN.out HH.out, ⟨fun j v hv => HU.out.cell j v hv⟩, below_drewN_ HB.out _⟩
            case measure => (simp [intOf] <;> omega)
          · have hyes : uAt (s.data.toList.drop p) = some 2 := (uAt_2 _).2 (by rw [← hx]; exact beq_iff_eq.1 heq)
            have hr := unitIx_some hyes hqk
            have HH := Lib.hid hr
            clear hr hx hyes
            go_wp2
            go_quiet (fail)
            go_wp2
            go_ret
            exact ⟨ret_int (by rw [HH.out]; try rfl), below_drewN_ HB.out _⟩
        · have h1' : ¬ (1 : Int) ≤ (s.size : Int) - (p : Int) := by omega
          have h1d : decide ((1 : Int) ≤ (s.size : Int) - (p : Int)) = false := decide_eq_false h1'
          have hne : uAt (s.data.toList.drop p) ≠ some 2 := fun h => h1 (take_size s p 1 [100] rfl ((uAt_2 _).1 h) (by omega))
          have HH := Lib.hid hne
          clear hne
          go_wp2
          go_quiet (fail)
          go_wp2
          go_roundw
          case rel => exact ⟨3, by omega, by omega, by go_num, not_next HN.out HH.out, ⟨fun j v hv => HU.out.cell j v hv⟩, below_drewN_ HB.out _⟩
          case measure => (simp [intOf] <;> omega)
      · have c6 : wr.cell? ⟨w.heap.size, 6, none⟩ = some (.string ⟨#[104]⟩) := HU.out.cell 6 _ rfl
        by_cases h1 : p + 1 ≤ s.size
        · have h1' : (1 : Int) ≤ (s.size : Int) - (p : Int) := by omega
          have hx := extract_take s p 1
          cases heq : ((s.extract p (p + 1)).toList == [104])
          · have hne : uAt (s.data.toList.drop p) ≠ some 3 := fun h => by
              have h2 := (uAt_3 _).1 h
              rw [← hx] at h2
              rw [h2] at heq
              simp at heq
            have HH := Lib.hid hne
            clear hne hx
            go_wp2
            go_quiet (fail)
            go_wp2
            go_roundw
            case rel => exact ⟨4, by omega, by omega, by go_num, not_next HN.out HH.out, ⟨fun j v hv => HU.out.cell j v hv⟩, below_drewN_ HB.out _⟩
            case measure => (simp [intOf] <;> omega)
          · have hyes : uAt (s.data.toList.drop p) = some 3 := (uAt_3 _).2 (by rw [← hx]; exact beq_iff_eq.1 heq)
            have hr := unitIx_some hyes hqk
            have HH := Lib.hid hr
            clear hr hx hyes
            go_wp2
            go_quiet (fail)
            go_wp2
            go_ret
            exact ⟨ret_int (by rw [HH.out]; try rfl), below_drewN_ HB.out _⟩
        · have h1' : ¬ (1 : Int) ≤ (s.size : Int) - (p : Int) := by omega
          have h1d : decide ((1 : Int) ≤ (s.size : Int) - (p : Int)) = false := decide_eq_false h1'
          have hne : uAt (s.data.toList.drop p) ≠ some 3 := fun h => h1 (take_size s p 1 [104] rfl ((uAt_3 _).1 h) (by omega))
          have HH := Lib.hid hne
          clear hne
          go_wp2
          go_quiet (fail)
          go_wp2
          go_roundw
          case rel => exact ⟨4, by omega, by omega, by go_num, not_next HN.out HH.out, ⟨fun j v hv => HU.out.cell j v hv⟩, below_drewN_ HB.out _⟩
          case measure => (simp [intOf] <;> omega)
      · have c8 : wr.cell? ⟨w.heap.size, 8, none⟩ = some (.string ⟨#[109]⟩) := HU.out.cell 8 _ rfl
        by_cases h1 : p + 1 ≤ s.size
        · have h1' : (1 : Int) ≤ (s.size : Int) - (p : Int) := by omega
          have hx := extract_take s p 1
          cases heq : ((s.extract p (p + 1)).toList == [109])
          · have hne : uAt (s.data.toList.drop p) ≠ some 4 := fun h => by
              have h2 := ((uAt_4 _).1 h).1
              rw [← hx] at h2
              rw [h2] at heq
              simp at heq
            have HH := Lib.hid hne
            clear hne hx
            go_wp2
            go_quiet (fail)
            go_wp2
            go_roundw
            case rel => exact ⟨5, by omega, by omega, by go_num, not_next HN.out HH.out, ⟨fun j v hv => HU.out.cell j v hv⟩, below_drewN_ HB.out _⟩
            case measure => (simp [intOf] <;> omega)
          · have htk : (s.data.toList.drop p).take 1 = [109] := by rw [← hx]; exact beq_iff_eq.1 heq
            by_cases h2 : p + 1 < s.size
            · have h2' : (p : Int) + 1 < (s.size : Int) := by omega
              have hg := get_list s (p + 1) h2
              obtain ⟨c, hc⟩ : ∃ c, s[p + 1] = c := ⟨_, rfl⟩
              rw [hc] at hg
              cases h3 : ((c.toNat : Int) == 115)
              · have hyes : uAt (s.data.toList.drop p) = some 4 := (uAt_4 _).2 ⟨htk, fun h => by
                  rw [List.getElem?_drop, hg] at h
                  injection h with h
                  rw [h] at h3
                  simp at h3⟩
                have hr := unitIx_some hyes hqk
                have HH := Lib.hid hr
                clear hr hx hyes hg htk
                go_wp2
                go_quiet (fail)
                go_wp2
                go_ret
                exact ⟨ret_int (by rw [HH.out]; try rfl), below_drewN_ HB.out _⟩
              · have hne : uAt (s.data.toList.drop p) ≠ some 4 := fun h => ((uAt_4 _).1 h).2 (by
                  rw [List.getElem?_drop, hg, Option.some.injEq, eq_toInt]
                  exact beq_iff_eq.1 h3)
                have HH := Lib.hid hne
                clear hne hx hg htk
                go_wp2
                go_quiet (fail)
                go_wp2
                go_roundw
                case rel => exact ⟨5, by omega, by omega, by go_num, not_next HN.out HH.out, ⟨fun j v hv => HU.out.cell j v hv⟩, below_drewN_ HB.out _⟩
                case measure => (simp [intOf] <;> omega)
            · have h2' : ¬ (p : Int) + 1 < (s.size : Int) := by omega
              have h2d : decide ((p : Int) + 1 < (s.size : Int)) = false := decide_eq_false h2'
              have hyes : uAt (s.data.toList.drop p) = some 4 := (uAt_4 _).2 ⟨htk, fun h => by
                rw [List.getElem?_drop, List.getElem?_eq_none (by rw [← size_len]; omega)] at h
                cases h⟩
              have hr := unitIx_some hyes hqk
              have HH := Lib.hid hr
              clear hr hx hyes htk
              go_wp2
              go_quiet (fail)
              go_wp2
              go_ret
              exact ⟨ret_int (by rw [HH.out]; try rfl), below_drewN_ HB.out _⟩
        · have h1' : ¬ (1 : Int) ≤ (s.size : Int) - (p : Int) := by omega
          have h1d : decide ((1 : Int) ≤ (s.size : Int) - (p : Int)) = false := decide_eq_false h1'
          have hne : uAt (s.data.toList.drop p) ≠ some 4 := fun h => h1 (take_size s p 1 [109] rfl (((uAt_4 _).1 h).1) (by omega))
          have HH := Lib.hid hne
          clear hne
          go_wp2
          go_quiet (fail)
          go_wp2
          go_roundw
          case rel => exact ⟨5, by omega, by omega, by go_num, not_next HN.out HH.out, ⟨fun j v hv => HU.out.cell j v hv⟩, below_drewN_ HB.out _⟩
          case measure => (simp [intOf] <;> omega)
      · have c10 : wr.cell? ⟨w.heap.size, 10, none⟩ = some (.string ⟨#[115]⟩) := HU.out.cell 10 _ rfl
        by_cases h1 : p + 1 ≤ s.size
        · have h1' : (1 : Int) ≤ (s.size : Int) - (p : Int) := by omega
          have hx := extract_take s p 1
          cases heq : ((s.extract p (p + 1)).toList == [115])
          · have hne : uAt (s.data.toList.drop p) ≠ some 5 := fun h => by
              have h2 := (uAt_5 _).1 h
              rw [← hx] at h2
              rw [h2] at heq
              simp at heq
            have HH := Lib.hid hne
            clear hne hx
            go_wp2
            go_quiet (fail)
            go_wp2
            go_roundw
            case rel => exact ⟨6, by omega, by omega, by go_num, not_next HN.out HH.out, ⟨fun j v hv => HU.out.cell j v hv⟩, below_drewN_ HB.out _⟩
            case measure => (simp [intOf] <;> omega)
          · have hyes : uAt (s.data.toList.drop p) = some 5 := (uAt_5 _).2 (by rw [← hx]; exact beq_iff_eq.1 heq)
            have hr := unitIx_some hyes hqk
            have HH := Lib.hid hr
            clear hr hx hyes
            go_wp2
            go_quiet (fail)
            go_wp2
            go_ret
            exact ⟨ret_int (by rw [HH.out]; try rfl), below_drewN_ HB.out _⟩
        · have h1' : ¬ (1 : Int) ≤ (s.size : Int) - (p : Int) := by omega
          have h1d : decide ((1 : Int) ≤ (s.size : Int) - (p : Int)) = false := decide_eq_false h1'
          have hne : uAt (s.data.toList.drop p) ≠ some 5 := fun h => h1 (take_size s p 1 [115] rfl ((uAt_5 _).1 h) (by omega))
          have HH := Lib.hid hne
          clear hne
          go_wp2
          go_quiet (fail)
          go_wp2
          go_roundw
          case rel => exact ⟨6, by omega, by omega, by go_num, not_next HN.out HH.out, ⟨fun j v hv => HU.out.cell j v hv⟩, below_drewN_ HB.out _⟩
          case measure => (simp [intOf] <;> omega)
      · have c12 : wr.cell? ⟨w.heap.size, 12, none⟩ = some (.string ⟨#[109, 115]⟩) := HU.out.cell 12 _ rfl
        by_cases h1 : p + 2 ≤ s.size
        · have h1' : (2 : Int) ≤ (s.size : Int) - (p : Int) := by omega
          have hx := extract_take s p 2
          cases heq : ((s.extract p (p + 2)).toList == [109, 115])
          · have hne : uAt (s.data.toList.drop p) ≠ some 6 := fun h => by
              have h2 := (uAt_6 _).1 h
              rw [← hx] at h2
              rw [h2] at heq
              simp at heq
            have HH := Lib.hid hne
            clear hne hx
            go_wp2
            go_quiet (fail)
            go_wp2
            go_roundw
            case rel => exact ⟨7, by omega, by omega, by go_num, not_next HN.out HH.out, ⟨fun j v hv => HU.out.cell j v hv⟩, below_drewN_ HB.out _⟩
            case measure => (simp [intOf] <;> omega)
          · have hyes : uAt (s.data.toList.drop p) = some 6 := (uAt_6 _).2 (by rw [← hx]; exact beq_iff_eq.1 heq)
            have hr := unitIx_some hyes hqk
            have HH := Lib.hid hr
            clear hr hx hyes
            go_wp2
            go_quiet (fail)
            go_wp2
            go_ret
            exact ⟨ret_int (by rw [HH.out]; try rfl), below_drewN_ HB.out _⟩
        · have h1' : ¬ (2 : Int) ≤ (s.size : Int) - (p : Int) := by omega
          have h1d : decide ((2 : Int) ≤ (s.size : Int) - (p : Int)) = false := decide_eq_false h1'
          have hne : uAt (s.data.toList.drop p) ≠ some 6 := fun h => h1 (take_size s p 2 [109, 115] rfl ((uAt_6 _).1 h) (by omega))
          have HH := Lib.hid hne
          clear hne
          go_wp2
          go_quiet (fail)
          go_wp2
          go_roundw
          case rel => exact ⟨7, by omega, by omega, by go_num, not_next HN.out HH.out, ⟨fun j v hv => HU.out.cell j v hv⟩, below_drewN_ HB.out _⟩
          case measure => (simp [intOf] <;> omega)
    · obtain rfl : k = 7 := by omega
      go_wp2
      go_ret
      exact ⟨ret_int (unitIx_none HN.out).symm, HB.out⟩
end Go.Proofs.YtmfnkilohicapaaGreatDoor
