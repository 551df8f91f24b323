/- What the listed variables' reading says of the memory. -/
import Derived.Test.YtmfnkilohicapaaGreatDoorRows
import Derived.Test.YtmfnkilohicapaaGreatDoorM
import Derived.ProofKit
import Derived.Lib.LaidU8
import Derived.Shelf.Unicode.PredsPay
namespace Go.Proofs.YtmfnkilohicapaaGreatDoor
open Go.RowKit Go.Lib

def valOf : Lit → Value
  | .bool b => .bool b
  | .int k n => .int k n
  | .float k b => .float k b
  | .string l => .string ⟨l.toArray⟩
  | .nil => .nilIface
section
variable {H : Type} {enc : TypeId × Value → H} {P : Program} {w : World} {base : Nat} {sp : Nat → Bool} {held : Bool}
def litTy : Lit → Option TypeDesc
  | .bool _ => some .bool
  | .int k _ => some (.int k)
  | .float k _ => some (.float k)
  | .string _ => some .string
  | .nil => none
theorem lit_cells {fuel : Nat} {t : TypeId} {cs : List Value} {x : Lit} {p : List MemPlace} (hx : x ≠ .nil) (ht : P.underlying t = litTy x) (h : DataW.trod enc P w base sp held fuel t cs = some (.lit x, p)) : cs = [valOf x] := by
  cases x with
  | nil => exact absurd rfl hx
  | bool b =>
    obtain ⟨b', hc, hd⟩ := DataW.trod_bool ht h
    injection hd with hd _
    injection hd with hd
    injection hd with hd
    rw [hc, hd]; rfl
  | int k n =>
    obtain ⟨b', hc, hd, _⟩ := DataW.trod_int ht h
    injection hd with hd _
    injection hd with hd
    injection hd with _ hd
    rw [hc, hd]; rfl
  | string l =>
    obtain ⟨s, hc, hd, _⟩ := DataW.trod_string ht h
    injection hd with hd _
    injection hd with hd
    injection hd with hd
    rw [hc, hd]
    show _ = [Value.string ⟨s.data.toList.toArray⟩]
    rw [Array.toArray_toList]
  | float k n =>
    have ht : P.underlying t = some (.float k) := ht
    cases fuel with
    | zero => simp [DataW.trod] at h
    | succ m =>
      unfold DataW.trod at h
      rw [ht] at h
      split at h
      all_goals first
        | (rename_i he; cases he; done)
        | skip
      · split at h
        · rename_i hk
          obtain ⟨hk1, _⟩ := hk
          injection h with h
          injection h with h _
          injection h with h
          injection h with h1 h2
          rw [hk1, h1, h2]; rfl
        · cases h
      · cases h
/-- A struct of literals, one cell each. -/
theorem agg_cells {fuel : Nat} {t : TypeId} {fs : Array Field} {cs : List Value} {xs : List Lit} {p : List MemPlace} (ht : P.underlying t = some (.struct fs))
    (hf : ∀ (i : Nat) (x : Lit), xs[i]? = some x → x ≠ .nil ∧ ∃ f, fs[i]? = some f ∧ P.underlying f.type = litTy x ∧ f.offset = i ∧ P.cellsOf f.type = 1) (hct : P.cellsOf t = xs.length)
    (h : DataW.trod enc P w base sp held fuel t cs = some (.agg (xs.map .lit), p)) : cs = xs.map valOf := by
  obtain ⟨ys, n, rfl, hx, hl, hyl, hall⟩ := DataW.trod_struct ht h
  have hys : ys.map (·.1) = xs.map .lit := by
    have := congrArg Prod.fst hx
    simpa using this.symm
  have hlen : ys.length = xs.length := by
    have := congrArg List.length hys
    simpa using this
  apply List.ext_getElem?
  intro i
  by_cases hi : i < xs.length
  · obtain ⟨x, hxi⟩ : ∃ x, xs[i]? = some x := ⟨_, List.getElem?_eq_getElem hi⟩
    obtain ⟨hn, f, hfi, hu, ho, hc⟩ := hf i x hxi
    have h1 := hall i f hfi
    obtain ⟨b, hb⟩ : ∃ b, ys[i]? = some b := ⟨ys[i]'(by omega), List.getElem?_eq_getElem (by omega)⟩
    have h3 : (ys.map (·.1))[i]? = some b.1 := by simp [hb]
    rw [hys] at h3
    simp only [List.getElem?_map, hxi, Option.map_some, Option.some.injEq] at h3
    rw [hb, ho, hc] at h1
    have h4 : DataW.trod enc P w base sp held n f.type ((cs.drop i).take 1) = some (.lit x, b.2) := by rw [h1, h3]
    have h5 := lit_cells hn hu h4
    have h6 : cs[i]? = some (valOf x) := by
      have := congrArg (·[0]?) h5
      simpa [List.getElem?_take, List.getElem?_drop] using this
    simp [h6, hxi]
  · rw [List.getElem?_eq_none (by omega), List.getElem?_eq_none (by simp; omega)]
/-- A slice: its elements' cells. -/
theorem slice_elem {fuel : Nat} {t e : TypeId} {cs : List Value} {ds rs : List (DataW H)} {p : List MemPlace} (ht : P.underlying t = some (.slice e)) 
    (h : DataW.trod enc P w base sp held fuel t cs = some (.slice ds rs, p)) : ∃ (a : Addr) (cap : Nat), cs = [.slice (some a) ds.length cap] ∧ ∀ (i : Nat) (d : DataW H), ds[i]? = some d → ∃ n q vs, w.cells? base (a.add (i * P.cellsOf e)) (P.cellsOf e) = some vs ∧ DataW.trod enc P w base sp held n e vs = some (d, q) := by
  rcases DataW.trod_slice ht h with ⟨_, hx⟩ | ⟨a, len, cap, elems, rest, n, _, hcs, hx, _, _, _, hel, hat, _⟩
  · cases hx
  · have hds : elems.map (·.1) = ds := by
      injection hx with hx _
      injection hx with hx _
      exact hx.symm
    have hlen : ds.length = len := by rw [← hds, List.length_map, hel]
    refine ⟨a, cap, by rw [hcs, hlen], fun i d hd => ?_⟩
    have hi : i < len := by rw [← hlen]; exact (List.getElem?_eq_some_iff.1 hd).1
    have h1 := hat i hi
    rw [← hds, List.getElem?_map] at hd
    obtain ⟨b, hb, rfl⟩ := Option.map_eq_some_iff.1 hd
    rw [hb] at h1
    obtain ⟨vs, hv, hv2⟩ := Option.bind_eq_some_iff.1 h1
    exact ⟨n, b.2, vs, hv, hv2⟩
end
end Go.Proofs.YtmfnkilohicapaaGreatDoor

/- What a listed variable's reading says of its cells, shape by shape. -/
namespace Go.Proofs.YtmfnkilohicapaaGreatDoor
open Go.RowKit Go.Lib

section
variable {P : Program} {w : World}
theorem field_of {fs : Array Field} {i : Nat} {ty : Option TypeDesc} (h : (fs[i]?).map (fun f => (P.underlying f.type, f.offset, P.cellsOf f.type)) = some (ty, i, 1)) : ∃ f, fs[i]? = some f ∧ P.underlying f.type = ty ∧ f.offset = i ∧ P.cellsOf f.type = 1 := by
  obtain ⟨f, hf, he⟩ := Option.map_eq_some_iff.1 h
  injection he with h1 h2
  injection h2 with h2 h3
  exact ⟨f, hf, h1, h2, h3⟩
theorem var_lit {name : String} {g t : Nat} {x : Lit} (hr : VarReads P w name (.lit x)) (hg : P.globalNamed name = some g) (hty : (P.globals[g]?).map (·.type) = some t) (hx : x ≠ .nil) (ht : P.underlying t = litTy x) : w.cell? ⟨g, 0, none⟩ = some (valOf x) := by
  obtain ⟨g', t', cs, fuel, p, hg', hty', hvar, hd⟩ := hr
  obtain rfl := Option.some.inj (hg.symm.trans hg')
  obtain rfl := Option.some.inj (hty.symm.trans hty')
  have hcs := lit_cells hx ht hd
  rw [World.var?_cell hg hvar 0, ← Array.getElem?_toList, hcs]; rfl
theorem var_struct {name : String} {g t : Nat} {fs : Array Field} {xs : List Lit} (hr : VarReads P w name (.agg (xs.map .lit))) (hg : P.globalNamed name = some g) (hty : (P.globals[g]?).map (·.type) = some t) (ht : P.underlying t = some (.struct fs))
    (hf : ∀ (i : Nat) (x : Lit), xs[i]? = some x → x ≠ .nil ∧ ∃ f, fs[i]? = some f ∧ P.underlying f.type = litTy x ∧ f.offset = i ∧ P.cellsOf f.type = 1) (hct : P.cellsOf t = xs.length) (i : Nat) (x : Lit) (hi : xs[i]? = some x) : w.cell? ⟨g, i, none⟩ = some (valOf x) := by
  obtain ⟨g', t', cs, fuel, p, hg', hty', hvar, hd⟩ := hr
  obtain rfl := Option.some.inj (hg.symm.trans hg')
  obtain rfl := Option.some.inj (hty.symm.trans hty')
  have hcs := agg_cells ht hf hct hd
  rw [World.var?_cell hg hvar i, ← Array.getElem?_toList, hcs, List.getElem?_map, hi]; rfl
theorem spot_none {w : World} {a : Addr} {v : Value} (h : w.cell? a = some v) : a = ⟨a.block, a.off, none⟩ := by
  obtain ⟨b, o, s⟩ := a
  cases s with
  | none => rfl
  | some n =>
    unfold World.cell? at h
    split at h <;> simp at h
theorem add_flat (b o i : Nat) : (⟨b, o, none⟩ : Addr).add i = ⟨b, o + i, none⟩ := by
  by_cases h0 : i = 0
  · subst h0; rfl
  · simp [Addr.add, h0]
theorem var_slice {name : String} {g t e : Nat} {xs : List Lit} {rs : List (DataW Unit)} (hr : VarReads P w name (.slice (xs.map .lit) rs)) (hg : P.globalNamed name = some g) (hty : (P.globals[g]?).map (·.type) = some t) (ht : P.underlying t = some (.slice e))
    (hx : ∀ x ∈ xs, x ≠ .nil ∧ P.underlying e = litTy x) (hc : P.cellsOf e = 1) (hne : 0 < xs.length) : ∃ b off c, w.cell? ⟨g, 0, none⟩ = some (.slice (some ⟨b, off, none⟩) xs.length c) ∧ ∀ (i : Nat) (x : Lit), xs[i]? = some x → w.cell? ⟨b, off + i, none⟩ = some (valOf x) := by
  obtain ⟨g', t', cs, fuel, p, hg', hty', hvar, hd⟩ := hr
  obtain rfl := Option.some.inj (hg.symm.trans hg')
  obtain rfl := Option.some.inj (hty.symm.trans hty')
  obtain ⟨a, cap, hcs, hall⟩ := slice_elem ht hd
  have cell : ∀ (i : Nat) (x : Lit), xs[i]? = some x → w.cell? (a.add i) = some (valOf x) := by
    intro i x hi
    obtain ⟨n, q, vs, hv, htr⟩ := hall i (.lit x) (by rw [List.getElem?_map, hi]; rfl)
    obtain ⟨hx1, hx2⟩ := hx x (List.mem_of_getElem? hi)
    have hvs := lit_cells hx1 hx2 htr
    rw [hc, Nat.mul_one] at hv
    obtain ⟨_, _, hat⟩ := World.cells?_some hv
    have h0 := hat 0 (by decide)
    rw [hvs] at h0
    have e0 : (a.add i).add 0 = a.add i := rfl
    rw [e0] at h0
    exact h0
  obtain ⟨x0, hx0⟩ : ∃ x, xs[0]? = some x := ⟨_, List.getElem?_eq_getElem hne⟩
  have ha := spot_none (show w.cell? a = some (valOf x0) from cell 0 x0 hx0)
  refine ⟨a.block, a.off, cap, ?_, fun i x hi => ?_⟩
  · rw [World.var?_cell hg hvar 0, ← Array.getElem?_toList, hcs, ← ha, List.length_map]; rfl
  · rw [← add_flat, ← ha]
    exact cell i x hi
theorem var_slice2 {name : String} {g t e : Nat} {fs : Array Field} {xs : List (Lit × Lit)} {rs : List (DataW Unit)} (hr : VarReads P w name (.slice (xs.map fun x => .agg [.lit x.1, .lit x.2]) rs)) (hg : P.globalNamed name = some g) (hty : (P.globals[g]?).map (·.type) = some t) (ht : P.underlying t = some (.slice e))
    (he : P.underlying e = some (.struct fs)) (t0 t1 : Option TypeDesc) (hf0 : ∃ f, fs[0]? = some f ∧ P.underlying f.type = t0 ∧ f.offset = 0 ∧ P.cellsOf f.type = 1) (hf1 : ∃ f, fs[1]? = some f ∧ P.underlying f.type = t1 ∧ f.offset = 1 ∧ P.cellsOf f.type = 1) (hx : ∀ x ∈ xs, (x.1 ≠ .nil ∧ t0 = litTy x.1) ∧ (x.2 ≠ .nil ∧ t1 = litTy x.2)) (hc : P.cellsOf e = 2) (hne : 0 < xs.length) : ∃ b off c, w.cell? ⟨g, 0, none⟩ = some (.slice (some ⟨b, off, none⟩) xs.length c) ∧ ∀ (i : Nat) (x : Lit × Lit), xs[i]? = some x → w.cell? ⟨b, off + i * 2, none⟩ = some (valOf x.1) ∧ w.cell? ⟨b, off + i * 2 + 1, none⟩ = some (valOf x.2) := by
  obtain ⟨g', t', cs, fuel, p, hg', hty', hvar, hd⟩ := hr
  obtain rfl := Option.some.inj (hg.symm.trans hg')
  obtain rfl := Option.some.inj (hty.symm.trans hty')
  obtain ⟨a, cap, hcs, hall⟩ := slice_elem ht hd
  have cell : ∀ (i : Nat) (x : Lit × Lit), xs[i]? = some x → w.cell? (a.add (i * 2)) = some (valOf x.1) ∧ w.cell? ((a.add (i * 2)).add 1) = some (valOf x.2) := by
    intro i x hi
    obtain ⟨n, q, vs, hv, htr⟩ := hall i (.agg [.lit x.1, .lit x.2]) (by rw [List.getElem?_map, hi]; rfl)
    obtain ⟨⟨a1, a2⟩, a3, a4⟩ := hx x (List.mem_of_getElem? hi)
    have hvs := agg_cells (xs := [x.1, x.2]) he (fun j y hj => by
      match j, hj with
      | 0, hj => obtain rfl := (Option.some.inj hj).symm; obtain ⟨f, b1, b2, b3, b4⟩ := hf0; exact ⟨a1, f, b1, b2.trans a2, b3, b4⟩
      | 1, hj => obtain rfl := (Option.some.inj hj).symm; obtain ⟨f, b1, b2, b3, b4⟩ := hf1; exact ⟨a3, f, b1, b2.trans a4, b3, b4⟩) hc htr
    rw [hc] at hv
    obtain ⟨_, _, hat⟩ := World.cells?_some hv
    have h0 := hat 0 (by decide)
    have h1 := hat 1 (by decide)
    rw [hvs] at h0 h1
    have e0 : (a.add (i * 2)).add 0 = a.add (i * 2) := rfl
    rw [e0] at h0
    exact ⟨h0, h1⟩
  obtain ⟨x0, hx0⟩ : ∃ x, xs[0]? = some x := ⟨_, List.getElem?_eq_getElem hne⟩
  have ha := spot_none (show w.cell? a = some (valOf x0.1) from (cell 0 x0 hx0).1)
  refine ⟨a.block, a.off, cap, ?_, fun i x hi => ?_⟩
  · rw [World.var?_cell hg hvar 0, ← Array.getElem?_toList, hcs, ← ha, List.length_map]; rfl
  · have hce := cell i x hi
    rw [ha, add_flat, add_flat] at hce
    exact hce
theorem var_array2 {name : String} {g t e n : Nat} {fs : Array Field} {xs : List (Lit × Lit)} (hr : VarReads P w name (.agg (xs.map fun x => .agg [.lit x.1, .lit x.2]))) (hg : P.globalNamed name = some g) (hty : (P.globals[g]?).map (·.type) = some t) (ht : P.underlying t = some (.array n e))
    (he : P.underlying e = some (.struct fs)) (t0 t1 : Option TypeDesc) (hf0 : ∃ f, fs[0]? = some f ∧ P.underlying f.type = t0 ∧ f.offset = 0 ∧ P.cellsOf f.type = 1) (hf1 : ∃ f, fs[1]? = some f ∧ P.underlying f.type = t1 ∧ f.offset = 1 ∧ P.cellsOf f.type = 1) (hx : ∀ x ∈ xs, (x.1 ≠ .nil ∧ t0 = litTy x.1) ∧ (x.2 ≠ .nil ∧ t1 = litTy x.2)) (hc : P.cellsOf e = 2) (hn : xs.length = n) : ∀ (i : Nat) (x : Lit × Lit), xs[i]? = some x → w.cell? ⟨g, i * 2, none⟩ = some (valOf x.1) ∧ w.cell? ⟨g, i * 2 + 1, none⟩ = some (valOf x.2) := by
  obtain ⟨g', t', cs, fuel, p, hg', hty', hvar, hd⟩ := hr
  obtain rfl := Option.some.inj (hg.symm.trans hg')
  obtain rfl := Option.some.inj (hty.symm.trans hty')
  intro i x hi
  have hin : i < n := by rw [← hn]; exact (List.getElem?_eq_some_iff.1 hi).1
  obtain ⟨fuel', d, q, hdi, htr⟩ := array_elem ht hd i hin
  rw [List.getElem?_map, hi] at hdi
  obtain rfl := (Option.some.inj hdi).symm
  obtain ⟨⟨a1, a2⟩, a3, a4⟩ := hx x (List.mem_of_getElem? hi)
  rw [hc] at htr
  have hvs := agg_cells (xs := [x.1, x.2]) he (fun j y hj => by
    match j, hj with
    | 0, hj => obtain rfl := (Option.some.inj hj).symm; obtain ⟨f, b1, b2, b3, b4⟩ := hf0; exact ⟨a1, f, b1, b2.trans a2, b3, b4⟩
    | 1, hj => obtain rfl := (Option.some.inj hj).symm; obtain ⟨f, b1, b2, b3, b4⟩ := hf1; exact ⟨a3, f, b1, b2.trans a4, b3, b4⟩) hc htr
  have h0 : cs.toList[i * 2]? = some (valOf x.1) := by
    have := congrArg (·[0]?) hvs
    simpa [List.getElem?_take, List.getElem?_drop] using this
  have h1 : cs.toList[i * 2 + 1]? = some (valOf x.2) := by
    have := congrArg (·[1]?) hvs
    simpa [List.getElem?_take, List.getElem?_drop] using this
  exact ⟨by rw [World.var?_cell hg hvar, ← Array.getElem?_toList, h0], by rw [World.var?_cell hg hvar, ← Array.getElem?_toList, h1]⟩
theorem var_iface {name dn : String} {g t : Nat} {ms : Array (String × TypeId)} {d : DataW Unit} (hr : VarReads P w name (.iface dn d)) (hg : P.globalNamed name = some g) (hty : (P.globals[g]?).map (·.type) = some t) (ht : P.underlying t = some (.interface ms)) : ∃ tp p, w.cell? ⟨g, 0, none⟩ = some (.iface tp p) := by
  obtain ⟨g', t', cs, fuel, p, hg', hty', hvar, hd⟩ := hr
  obtain rfl := Option.some.inj (hg.symm.trans hg')
  obtain rfl := Option.some.inj (hty.symm.trans hty')
  cases fuel with
  | zero => simp [DataW.trod] at hd
  | succ n =>
    unfold DataW.trod at hd
    rw [ht] at hd
    split at hd
    all_goals first
      | (cases hd; done)
      | (rename_i h1; cases h1; done)
      | (rename_i h1 h2; cases h1; done)
      | (rename_i h1 h2 h3; cases h1; done)
      | (rename_i h1 h2; exact ⟨_, _, by rw [World.var?_cell hg hvar 0, ← Array.getElem?_toList, h2]; rfl⟩)
theorem rows_in_laid : ∀ {l : List (String × DataW Unit)} {ps : List MemPlace}, DataW.LaidVars P w l ps → ∀ n d, (n, d) ∈ l → ∃ g cs, P.globalNamed n = some g ∧ w.var? P n = some cs ∧ ∀ i, i < cs.size → MemPlace.cell g i ∈ ps
  | [], _, _, _, _, hm => by cases hm
  | (n', d') :: r, ps, h, n, d, hm => by
    obtain ⟨g, t, cs, fuel, p, q, h1, h2, h3, h4, h5, rfl⟩ := h
    rcases List.mem_cons.1 hm with e | e
    · cases e
      refine ⟨g, cs, h1, h3, fun i hi => ?_⟩
      refine List.mem_append_left _ (List.mem_append_left _ (MemPlace.mem_row.2 ⟨i, hi, ?_⟩))
      simp
    · obtain ⟨g2, cs2, k1, k2, k3⟩ := rows_in_laid h5 n d e
      exact ⟨g2, cs2, k1, k2, fun i hi => List.mem_append_right _ (k3 i hi)⟩
theorem block_of_laid {l : List (String × DataW Unit)} (h : laidMet P l w) {n : String} {d : DataW Unit} (hm : (n, d) ∈ l) {g : Nat} (hg : P.globalNamed n = some g) {v : Value} (hv : w.cell? ⟨g, 0, none⟩ = some v) : ∃ c t, w.heap[g]? = some (.cells c t (0, 0)) := by
  obtain ⟨ps, hl, _, hall⟩ := h
  obtain ⟨g2, cs, k1, k2, k3⟩ := rows_in_laid hl n d hm
  obtain rfl := Option.some.inj (hg.symm.trans k1)
  have h0 := World.var?_cell hg k2 0
  rw [hv] at h0
  have hs : 0 < cs.size := by
    rcases Nat.lt_or_ge 0 cs.size with h | h
    · exact h
    · rw [Array.getElem?_eq_none h] at h0; cases h0
  exact (hall g 0 (k3 0 hs)).1
end
end Go.Proofs.YtmfnkilohicapaaGreatDoor
