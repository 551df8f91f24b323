/- The listed variables as the walks ask them. -/
import Derived.Test.YtmfnkilohicapaaGreatDoorEh
import Derived.PinnedBridge
namespace Go.Proofs.YtmfnkilohicapaaGreatDoor
open Go.RowKit Go.Lib Go.Shelf

noncomputable def fieldsOf (t : TypeId) : Array Field := match Tryz.prog.underlying t with
  | some (.struct fs) => fs
  | _ => #[]
theorem und145 : Tryz.prog.underlying 145 = some (.struct (fieldsOf 145)) := by kernel_rfl
theorem und200 : Tryz.prog.underlying 200 = some (.struct (fieldsOf 200)) := by kernel_rfl
theorem und193 : Tryz.prog.underlying 193 = some (.struct (fieldsOf 193)) := by kernel_rfl
theorem und194 : Tryz.prog.underlying 194 = some (.array 696 193) := by kernel_rfl
theorem und201 : Tryz.prog.underlying 201 = some (.slice 200) := by kernel_rfl
theorem und184 : Tryz.prog.underlying 184 = some (.slice 3) := by kernel_rfl
theorem und186 : Tryz.prog.underlying 186 = some (.slice 22) := by kernel_rfl
theorem xU8 : U8Extra Tryz.prog Tryz.lays197_ren := ⟨by kernel_rfl, by kernel_rfl, by kernel_rfl, by kernel_rfl, by kernel_rfl, by kernel_rfl, by kernel_rfl⟩
noncomputable def pow10T : TypeId := ((Tryz.prog.globals[3]?).map (·.type)).getD 0
noncomputable def pow10E : TypeId := match Tryz.prog.underlying pow10T with
  | some (.array _ e) => e
  | _ => 0
noncomputable def errMs : Array (String × TypeId) := match Tryz.prog.underlying 36 with
  | some (.interface ms) => ms
  | _ => #[]
theorem utf8_of {W : World} (h : laidMet Tryz.prog Rows.lexValuesRow.laid W) : Utf8Tabs 8 9 W := by
  have h1 : VarReads Tryz.prog W "unicode/utf8.first" Pinned.utf8First := laidMet.reads h (List.mem_of_getElem? (i := 14) rfl)
  have h2 : VarReads Tryz.prog W "unicode/utf8.acceptRanges" acceptData := laidMet.reads h (List.mem_of_getElem? (i := 9) rfl)
  exact utf8Tabs_of_reads { Tryz.lays197 with } xU8 (Pinned.utf8First_eq ▸ h1) h2
theorem pow10_of {W : World} (h : laidMet Tryz.prog Rows.lexValuesRow.laid W) : TabIs Tryz.prog W "internal/strconv.uint64pow10" .u64 Lib.pow10Tab := by
  have h1 : VarReads Tryz.prog W "internal/strconv.uint64pow10" (tabData .u64 Lib.pow10Tab) := laidMet.reads h (List.mem_of_getElem? (i := 8) rfl)
  obtain ⟨g, t, cs, fuel, p, hg, hty, hvar, hd⟩ := h1
  obtain rfl := Option.some.inj ((show Tryz.prog.globalNamed "internal/strconv.uint64pow10" = some 3 by kernel_rfl).symm.trans hg)
  obtain rfl := Option.some.inj ((show (Tryz.prog.globals[3]?).map (·.type) = some pow10T by kernel_rfl).symm.trans hty)
  have hcs := cells_of_tab (n := 20) (e := pow10E) (show Tryz.prog.underlying pow10T = some (.array 20 pow10E) by kernel_rfl) (by kernel_rfl) (by kernel_rfl) (by kernel_rfl) hd
  show W.var? Tryz.prog "internal/strconv.uint64pow10" = _
  rw [hvar, ← hcs, Array.toArray_toList]
theorem fmt_of {W : World} (h : laidMet Tryz.prog Rows.lexValuesRow.laid W) : W.cell? ⟨6, 0, none⟩ = some (.int .u64 52) ∧ W.cell? ⟨6, 1, none⟩ = some (.int .u64 11) ∧ W.cell? ⟨6, 2, none⟩ = some (.int .i64 (-1023)) := by
  have h1 : VarReads Tryz.prog W "internal/strconv.float64info" (.agg ([Lit.int .u64 52, Lit.int .u64 11, Lit.int .i64 (-1023)].map .lit)) := laidMet.reads h (List.mem_of_getElem? (i := 3) rfl)
  have hv := var_struct h1 (g := 6) (t := 145) (by kernel_rfl) (by kernel_rfl) und145 (fun i x hi => by
    match i, hi with
    | 0, hi => obtain rfl := (Option.some.inj hi).symm; exact ⟨(fun h => by cases h), field_of (by kernel_rfl)⟩
    | 1, hi => obtain rfl := (Option.some.inj hi).symm; exact ⟨(fun h => by cases h), field_of (by kernel_rfl)⟩
    | 2, hi => obtain rfl := (Option.some.inj hi).symm; exact ⟨(fun h => by cases h), field_of (by kernel_rfl)⟩) (by kernel_rfl)
  exact ⟨hv 0 _ rfl, hv 1 _ rfl, hv 2 _ rfl⟩
theorem opt_of {W : World} (h : laidMet Tryz.prog Rows.lexValuesRow.laid W) : W.cell? ⟨5, 0, none⟩ = some (.bool true) := by
  have h1 : VarReads Tryz.prog W "internal/strconv.optimize" (.lit (.bool true)) := laidMet.reads h (List.mem_of_getElem? (i := 4) rfl)
  exact var_lit h1 (g := 5) (t := 4) (by kernel_rfl) (by kernel_rfl) (fun h => by cases h) (by kernel_rfl)
theorem powtab_of {W : World} (h : laidMet Tryz.prog Rows.lexValuesRow.laid W) : ∃ b off c, W.cell? ⟨11, 0, none⟩ = some (.slice (some ⟨b, off, none⟩) 9 c) ∧ ∀ (i : Nat) v, powtabL[i]? = some v → W.cell? ⟨b, off + i, none⟩ = some (.int .i64 (v : Nat)) := by
  have h1 : VarReads Tryz.prog W "internal/strconv.powtab" (.slice ((powtabL.map fun n : Nat => Lit.int .i64 (n : Int)).map .lit) []) := laidMet.reads h (List.mem_of_getElem? (i := 5) rfl)
  obtain ⟨b, off, c, hc, hall⟩ := var_slice h1 (g := 11) (t := 184) (e := 3) (by kernel_rfl) (by kernel_rfl) und184 (fun x hx => by
    obtain ⟨n, _, rfl⟩ := List.mem_map.1 hx
    exact ⟨(fun h => by cases h), (show Tryz.prog.underlying 3 = some (.int .i64) by kernel_rfl)⟩) (by kernel_rfl) (by decide)
  exact ⟨b, off, c, hc, fun i v hv => hall i (Lit.int .i64 (v : Int)) (by rw [List.getElem?_map, hv]; rfl)⟩
theorem f64pow_of {W : World} (h : laidMet Tryz.prog Rows.lexValuesRow.laid W) : ∃ b off c, W.cell? ⟨12, 0, none⟩ = some (.slice (some ⟨b, off, none⟩) 23 c) ∧ ∀ (i : Nat) v, f64powL[i]? = some v → W.cell? ⟨b, off + i, none⟩ = some (.float .f64 v) := by
  have h1 : VarReads Tryz.prog W "internal/strconv.float64pow10" (.slice ((f64powL.map fun n : Nat => Lit.float .f64 n).map .lit) []) := laidMet.reads h (List.mem_of_getElem? (i := 6) rfl)
  obtain ⟨b, off, c, hc, hall⟩ := var_slice h1 (g := 12) (t := 186) (e := 22) (by kernel_rfl) (by kernel_rfl) und186 (fun x hx => by
    obtain ⟨n, _, rfl⟩ := List.mem_map.1 hx
    exact ⟨(fun h => by cases h), (show Tryz.prog.underlying 22 = some (.float .f64) by kernel_rfl)⟩) (by kernel_rfl) (by decide)
  exact ⟨b, off, c, hc, fun i v hv => hall i (Lit.float .f64 v) (by rw [List.getElem?_map, hv]; rfl)⟩
theorem cheats_of {W : World} (h : laidMet Tryz.prog Rows.lexValuesRow.laid W) : ∃ b off c, W.cell? ⟨16, 0, none⟩ = some (.slice (some ⟨b, off, none⟩) 61 c) ∧ ∀ (i : Nat) d s, Pinned.cheatRows[i]? = some (d, s) → W.cell? ⟨b, off + i * 2, none⟩ = some (.int .i64 d) ∧ W.cell? ⟨b, off + i * 2 + 1, none⟩ = some (.string ⟨s.toArray⟩) := by
  have h0 : VarReads Tryz.prog W "internal/strconv.leftcheats" Pinned.leftcheats := laidMet.reads h (List.mem_of_getElem? (i := 12) rfl)
  have e : Pinned.leftcheats = .slice ((Pinned.cheatRows.map fun x => (Lit.int .i64 (x.1 : Int), Lit.string x.2)).map fun x => .agg [.lit x.1, .lit x.2]) [] := by
    unfold Pinned.leftcheats
    rw [List.map_map]
    rfl
  rw [e] at h0
  obtain ⟨b, off, c, hc, hall⟩ := var_slice2 h0 (g := 16) (t := 201) (e := 200) (by kernel_rfl) (by kernel_rfl) und201 und200 (some (.int .i64)) (some .string) (field_of (by kernel_rfl)) (field_of (by kernel_rfl)) (fun x hx => by
    obtain ⟨n, _, rfl⟩ := List.mem_map.1 hx
    exact ⟨⟨(fun h => by cases h), rfl⟩, (fun h => by cases h), rfl⟩) (by kernel_rfl) (by rw [List.length_map]; decide)
  rw [List.length_map] at hc
  have hl : Pinned.cheatRows.length = 61 := by kernel_rfl
  rw [hl] at hc
  exact ⟨b, off, c, hc, fun i d s hv => hall i (Lit.int .i64 (d : Int), Lit.string s) (by rw [List.getElem?_map, hv]; rfl)⟩
theorem p10_of {W : World} (h : laidMet Tryz.prog Rows.lexValuesRow.laid W) : ∀ (i : Nat) h l, Pinned.pow10Rows[i]? = some (h, l) → W.cell? ⟨15, i * 2, none⟩ = some (.int .u64 h) ∧ W.cell? ⟨15, i * 2 + 1, none⟩ = some (.int .u64 l) := by
  have h0 : VarReads Tryz.prog W "internal/strconv.pow10Tab" Pinned.pow10Tab := laidMet.reads h (List.mem_of_getElem? (i := 13) rfl)
  have e : Pinned.pow10Tab = .agg ((Pinned.pow10Rows.map fun x => (Lit.int .u64 (x.1 : Int), Lit.int .u64 (x.2 : Int))).map fun x => .agg [.lit x.1, .lit x.2]) := by
    unfold Pinned.pow10Tab
    rw [List.map_map]
    rfl
  rw [e] at h0
  have hl : Pinned.pow10Rows.length = 696 := by kernel_rfl
  have hall := var_array2 h0 (g := 15) (t := 194) (e := 193) (n := 696) (by kernel_rfl) (by kernel_rfl) und194 und193 (some (.int .u64)) (some (.int .u64)) (field_of (by kernel_rfl)) (field_of (by kernel_rfl)) (fun x hx => by
    obtain ⟨n, _, rfl⟩ := List.mem_map.1 hx
    exact ⟨⟨(fun h => by cases h), rfl⟩, (fun h => by cases h), rfl⟩) (by kernel_rfl) (by rw [List.length_map]; exact hl)
  intro i a l hv
  exact hall i (Lit.int .u64 (a : Int), Lit.int .u64 (l : Int)) (by rw [List.getElem?_map, hv]; rfl)
theorem err_of {W : World} (h : laidMet Tryz.prog Rows.lexValuesRow.laid W) : ∃ tp p, W.cell? ⟨2, 0, none⟩ = some (.iface tp p) := by
  have h0 : VarReads Tryz.prog W "strconv.ErrRange" (.iface "*errors.errorString" (.ptr (.agg [.lit (.string [118, 97, 108, 117, 101, 32, 111, 117, 116, 32, 111, 102, 32, 114, 97, 110, 103, 101])]))) := laidMet.reads h (List.mem_of_getElem? (i := 10) rfl)
  exact var_iface h0 (g := 2) (t := 36) (ms := errMs) (by kernel_rfl) (by kernel_rfl) (by kernel_rfl)
theorem hap6_of {W : World} (h : laidMet Tryz.prog Rows.lexValuesRow.laid W) : ∃ c t, W.heap[6]? = some (.cells c t (0, 0)) :=
  block_of_laid h (List.mem_of_getElem? (i := 3) rfl) (g := 6) (by kernel_rfl) (fmt_of h).1
theorem hap4_of {W : World} (h : laidMet Tryz.prog Rows.lexValuesRow.laid W) : ∃ c t, W.heap[4]? = some (.cells c t (0, 0)) := by
  have h1 : VarReads Tryz.prog W "internal/strconv.float32info" (.agg ([Lit.int .u64 23, Lit.int .u64 8, Lit.int .i64 (-127)].map .lit)) := laidMet.reads h (List.mem_of_getElem? (i := 2) rfl)
  have hv := var_struct h1 (g := 4) (t := 145) (by kernel_rfl) (by kernel_rfl) und145 (fun i x hi => by
    match i, hi with
    | 0, hi => obtain rfl := (Option.some.inj hi).symm; exact ⟨(fun h => by cases h), field_of (by kernel_rfl)⟩
    | 1, hi => obtain rfl := (Option.some.inj hi).symm; exact ⟨(fun h => by cases h), field_of (by kernel_rfl)⟩
    | 2, hi => obtain rfl := (Option.some.inj hi).symm; exact ⟨(fun h => by cases h), field_of (by kernel_rfl)⟩) (by kernel_rfl)
  exact block_of_laid h (List.mem_of_getElem? (i := 2) rfl) (g := 4) (by kernel_rfl) (hv 0 _ rfl)
theorem tabs_of {W : World} (h : laidMet Tryz.prog Rows.lexValuesRow.laid W) : Tabs W :=
  ⟨utf8_of h, pow10_of h, (fmt_of h).1, (fmt_of h).2.1, (fmt_of h).2.2, opt_of h, powtab_of h, f64pow_of h, cheats_of h, p10_of h, err_of h, hap4_of h, hap6_of h⟩
end Go.Proofs.YtmfnkilohicapaaGreatDoor
