/- What both packages' 'decimal' hand to ParseFloat, in plain words. -/
import Derived.Test.YtmfnkilohicapaaGreatDoorBd
import Derived.Lib.OthersKept
namespace Go.Proofs.YtmfnkilohicapaaGreatDoor
open Go.RowKit

/-- ParseFloat answers this float64, whatever else lies in memory. -/
def PFspec (x : ByteArray) (b : Nat) : Prop := ∀ w, Laid w → Calls Tryz.prog 13 #[.string x, .int .i64 64] w fun e w' => (∃ er, e = .returned (.tuple #[.float .f64 b, er])) ∧ Below w.heap.size w w'
noncomputable def pfBits (x : ByteArray) : Nat := Classical.epsilon (PFspec x)
theorem pf_of {x : ByteArray} (h : ∃ b, PFspec x b) : PFspec x (pfBits x) := Classical.epsilon_spec h
def isE (c : UInt8) : Bool := c == 101 || c == 69
def dig0 (W Pt : List UInt8) : List UInt8 := (W ++ Pt).dropWhile (· == 48)
def foldCap (ds : List UInt8) : Nat := ds.foldl (fun a c => min (10 * a + (c.toNat - 48)) 1099511627776) 0
theorem foldCap_snoc (l : List UInt8) (c : UInt8) : foldCap (l ++ [c]) = min (10 * foldCap l + (c.toNat - 48)) 1099511627776 := by
  unfold foldCap; rw [List.foldl_append]; rfl
theorem foldCap_le (l : List UInt8) : foldCap l ≤ 1099511627776 := by
  rcases List.eq_nil_or_concat l with rfl | ⟨r, c, rfl⟩
  · exact Nat.zero_le _
  · rw [List.concat_eq_append, foldCap_snoc]; exact Nat.min_le_right _ _
def expV (sg ds : List UInt8) : Int := if sg = [45] then -(foldCap ds : Int) else (foldCap ds : Int)
def clampAt (x : Int) : Int := min (max x (-1000)) 1000
def decAt (W Pt sg ds : List UInt8) : Int := clampAt ((dig0 W Pt).length - Pt.length + expV sg ds)
def decText (W Pt sg ds : List UInt8) : ByteArray := ((⟨#[48, 46]⟩ ++ ⟨(dig0 W Pt).toArray⟩) ++ ⟨#[101]⟩) ++ ⟨(Lib.itoa (decAt W Pt sg ds)).toArray⟩
noncomputable def decVal (W Pt sg ds : List UInt8) : Nat := if dig0 W Pt = [] then 0 else pfBits (decText W Pt sg ds)
/-- .. with the exponent's limbs. -/
structure DecOf (l W Pt : List UInt8) (point : Bool) (ex : Bool) (e : UInt8) (sg ds : List UInt8) : Prop where
  eq : l = W ++ ptOf point Pt ++ (if ex then e :: (sg ++ ds) else [])
  whole : AllDig W
  part : AllDig Pt
  nopart : point = false → Pt = []
  isE : isE e = true
  sign : sg = [] ∨ sg = [43] ∨ sg = [45]
  dig : AllDig ds
  none : ex = false → sg = [] ∧ ds = []
theorem decOf (l : List UInt8) (h : numOk l 2 = true) (hx : hexLen l = 0) : ∃ W Pt point ex e sg ds, DecOf l W Pt point ex e sg ds := by
  obtain ⟨W, Pt, point, E, h⟩ := dec_shape l h hx
  rcases h.exp with rfl | ⟨e, sg, ds, rfl, he, hs, hd⟩
  · exact ⟨W, Pt, point, false, 101, [], [], by simpa using h.eq, h.whole, h.part, h.nopart, rfl, Or.inl rfl, allDig_nil, fun _ => ⟨rfl, rfl⟩⟩
  · exact ⟨W, Pt, point, true, e, sg, ds, by simpa using h.eq, h.whole, h.part, h.nopart, by rcases he with rfl | rfl <;> rfl, hs, hd, fun h => by cases h⟩
theorem dig_num {c : UInt8} (h : isDig c = true) : (c == 46) = false ∧ (c == 43) = false ∧ (c == 45) = false ∧ (c == 101) = false ∧ (c == 69) = false ∧ c.toNat < 128 := by
  rw [isDig_iff] at h
  refine ⟨?_, ?_, ?_, ?_, ?_, by omega⟩
  all_goals
    refine beq_eq_false_iff_ne.2 (fun e => ?_)
    rw [e] at h
    revert h
    decide
/-- The mantissa. -/
def mant (W Pt : List UInt8) (point : Bool) : List UInt8 := W ++ ptOf point Pt
theorem mant_mem {l W Pt : List UInt8} {point ex : Bool} {e : UInt8} {sg ds : List UInt8} (h : DecOf l W Pt point ex e sg ds) : ∀ c ∈ mant W Pt point, isDig c = true ∨ c = 46 := by
  intro c hc
  unfold mant ptOf at hc
  rcases List.mem_append.1 hc with hc | hc
  · exact Or.inl (h.whole c hc)
  · cases point
    · cases hc
    · rcases List.mem_cons.1 hc with rfl | hc
      · exact Or.inr rfl
      · exact Or.inl (h.part c hc)
theorem dec_ascii {l W Pt : List UInt8} {point ex : Bool} {e : UInt8} {sg ds : List UInt8} (h : DecOf l W Pt point ex e sg ds) : ∀ c ∈ l, c.toNat < 128 := by
  intro c hc
  rw [h.eq] at hc
  rcases List.mem_append.1 hc with hc | hc
  · rcases mant_mem h c hc with h1 | rfl
    · exact (dig_num h1).2.2.2.2.2
    · decide
  · cases ex
    · cases hc
    · rcases List.mem_cons.1 hc with rfl | hc
      · have := h.isE
        unfold isE at this
        rw [Bool.or_eq_true, beq_iff_eq, beq_iff_eq] at this
        rcases this with rfl | rfl <;> decide
      · rcases List.mem_append.1 hc with hc | hc
        · rcases h.sign with h1 | h1 | h1
          · rw [h1] at hc; cases hc
          · rw [h1] at hc; rw [List.mem_singleton.1 hc]; decide
          · rw [h1] at hc; rw [List.mem_singleton.1 hc]; decide
        · exact (dig_num (h.dig c hc)).2.2.2.2.2
theorem dec_index {l W Pt : List UInt8} {point ex : Bool} {e : UInt8} {sg ds : List UInt8} (h : DecOf l W Pt point ex e sg ds) : Lib.indexAny l [101, 69] = if ex then ((mant W Pt point).length : Int) else -1 := by
  have hno : Lib.NoAny l [101, 69] (mant W Pt point).length := by
    intro j b hj hb
    rw [h.eq] at hb
    have hb : (mant W Pt point ++ if ex = true then e :: (sg ++ ds) else [])[j]? = some b := hb
    rw [List.getElem?_append_left hj] at hb
    rcases mant_mem h b (List.mem_of_getElem? hb) with h1 | rfl
    · have := dig_num h1
      simp only [List.contains_cons, List.contains_nil, Bool.or_false]
      rw [this.2.2.2.1, this.2.2.2.2.1]; rfl
    · rfl
  cases ex
  · have hl : l = mant W Pt point := by have := h.eq; simpa [mant] using this
    rw [← hl] at hno
    exact Lib.indexAny_none hno
  · refine Lib.indexAny_hit hno (x := e) ?_ ?_
    · rw [h.eq, show W ++ ptOf point Pt = mant W Pt point from rfl, List.getElem?_append_right (Nat.le_refl _), Nat.sub_self]; rfl
    · have := h.isE
      simpa [isE, List.contains_cons] using this
theorem take_all {p : UInt8 → Bool} {l : List UInt8} (h : ∀ c ∈ l, p c = true) : l.takeWhile p = l ∧ l.dropWhile p = [] := by
  induction l with
  | nil => exact ⟨rfl, rfl⟩
  | cons a r ih =>
    have h1 := ih (fun c hc => h c (List.mem_cons_of_mem _ hc))
    have h2 := h a (List.mem_cons_self ..)
    simp [h2, h1.1, h1.2]
theorem dec_cut {l W Pt : List UInt8} {point ex : Bool} {e : UInt8} {sg ds : List UInt8} (h : DecOf l W Pt point ex e sg ds) : cutAt 46 (mant W Pt point) = (W, Pt) := by
  have hW : ∀ c ∈ W, (c != 46) = true := fun c hc => by rw [bne, (dig_num (h.whole c hc)).1]; rfl
  have h1 : W.takeWhile (· != 46) = W := (take_all hW).1
  unfold cutAt mant ptOf
  cases point
  · rw [h.nopart rfl]
    simp only [Bool.false_eq_true, if_false, List.append_nil]
    rw [h1, (take_all hW).2]; rfl
  · simp only [if_true]
    rw [List.takeWhile_append_of_pos hW, List.dropWhile_append_of_pos hW]
    simp
theorem dec_trim {l W Pt : List UInt8} {point ex : Bool} {e : UInt8} {sg ds : List UInt8} (h : DecOf l W Pt point ex e sg ds) : Lib.trimLeftS (sg ++ ds) [43, 45] = ds := by
  have h0 : Lib.trimLeftS ds [43, 45] = ds := by
    cases hd : ds with
    | nil => rfl
    | cons c r =>
      have := dig_num (h.dig c (by rw [hd]; exact List.mem_cons_self ..))
      have h2 : c ≠ 43 := fun e => by rw [e] at this; exact absurd this.2.1 (by decide)
      have h3 : c ≠ 45 := fun e => by rw [e] at this; exact absurd this.2.2.1 (by decide)
      simp [Lib.trimLeftS, h2, h3]
  rcases h.sign with h1 | h1 | h1
  · rw [h1]; exact h0
  · rw [h1]; simpa [Lib.trimLeftS, List.dropWhile_cons] using h0
  · rw [h1]; simpa [Lib.trimLeftS, List.dropWhile_cons] using h0
theorem dec_minus {l W Pt : List UInt8} {point ex : Bool} {e : UInt8} {sg ds : List UInt8} (h : DecOf l W Pt point ex e sg ds) : Lib.hasPrefix (sg ++ ds) [45] = decide (sg = [45]) := by
  rcases h.sign with h1 | h1 | h1
  · rw [h1]
    cases hd : ds with
    | nil => rfl
    | cons c r =>
      have := dig_num (h.dig c (by rw [hd]; exact List.mem_cons_self ..))
      have h2 : c ≠ 45 := fun e => by rw [e] at this; exact absurd this.2.2.1 (by decide)
      simp [Lib.hasPrefix, List.isPrefixOf, Ne.symm h2]
  · rw [h1]; simp [Lib.hasPrefix, List.isPrefixOf]
  · rw [h1]; simp [Lib.hasPrefix, List.isPrefixOf]
end Go.Proofs.YtmfnkilohicapaaGreatDoor
