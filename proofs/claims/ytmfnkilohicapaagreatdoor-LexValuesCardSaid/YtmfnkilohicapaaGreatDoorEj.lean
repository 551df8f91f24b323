/- 'tocsinlaw13.LexValues': for any text and any number, both packages answer alike and 'known' holds: the law returns true, and its arguments read as before. Conditions: those of the tied card alone (the listed variables hold what the program's text lays in them). -/
import Derived.Test.YtmfnkilohicapaaGreatDoorEi
import Derived.Test.YtmfnkilohicapaaGreatDoorEf
import Derived.Test.YtmfnkilohicapaaGreatDoorDs
import Derived.Test.YtmfnkilohicapaaGreatDoorTie
import Derived.Test.YtmfnkilohicapaaGreatDoorCards
import Derived.ProofKit
import Derived.Lay
import Derived.LaidOnce
import Derived.SevenTiedAt
namespace Go.Proofs.YtmfnkilohicapaaGreatDoor
open Go.RowKit Go.ChangeShapes Go.WideShapes Go.ChangeAt
open Go.ChangeMaps (open_string shut_string)

theorem lt_of_cell {w : World} {a : Addr} {v : Value} (h : w.cell? a = some v) : a.block < w.heap.size := by
  rcases Nat.lt_or_ge a.block w.heap.size with h' | h'
  · exact h'
  · unfold World.cell? at h
    rw [Array.getElem?_eq_none h'] at h
    cases h
theorem cell_stays {w w' : World} (hb : Below w.heap.size w w') {a : Addr} {v : Value} (h : w.cell? a = some v) : w'.cell? a = some v := by
  rw [hb.cell (p := a) (lt_of_cell h), h]
theorem heap_stays {w w' : World} (hb : Below w.heap.size w w') {k : Nat} {o : Obj} (h : w.heap[k]? = some o) : w'.heap[k]? = some o := by
  have hk : k < w.heap.size := by
    rcases Nat.lt_or_ge k w.heap.size with h' | h'
    · exact h'
    · rw [Array.getElem?_eq_none h'] at h; cases h
  rw [hb.block k hk, h]
theorem tabs_below {w w' : World} (h : Tabs w) (hb : Below w.heap.size w w') : Tabs w' := by
  refine ⟨Go.Proofs.Utf8Tabs_below h.utf8 hb, Go.Proofs.TabIs_below (g := 3) (by kernel_rfl) h.pow10 hb, cell_stays hb h.mant, cell_stays hb h.expb, cell_stays hb h.bias, cell_stays hb h.opt, ?_, ?_, ?_, ?_, ?_, ?_, ?_⟩
  · obtain ⟨b, off, c, h1, h2⟩ := h.powtab
    exact ⟨b, off, c, cell_stays hb h1, fun i v hv => cell_stays hb (h2 i v hv)⟩
  · obtain ⟨b, off, c, h1, h2⟩ := h.f64pow
    exact ⟨b, off, c, cell_stays hb h1, fun i v hv => cell_stays hb (h2 i v hv)⟩
  · obtain ⟨b, off, c, h1, h2⟩ := h.cheats
    exact ⟨b, off, c, cell_stays hb h1, fun i d s hv => ⟨cell_stays hb (h2 i d s hv).1, cell_stays hb (h2 i d s hv).2⟩⟩
  · exact fun i a l hv => ⟨cell_stays hb (h.p10 i a l hv).1, cell_stays hb (h.p10 i a l hv).2⟩
  · obtain ⟨tp, p, h1⟩ := h.err
    exact ⟨tp, p, cell_stays hb h1⟩
  · obtain ⟨c, t, h1⟩ := h.hap4
    exact ⟨c, t, heap_stays hb h1⟩
  · obtain ⟨c, t, h1⟩ := h.hap6
    exact ⟨c, t, heap_stays hb h1⟩
theorem laid_of {W : World} (h : laidMet Tryz.prog Rows.lexValuesRow.laid W) : Laid W := fun _ hb => tabs_below (tabs_of h) hb

theorem Tryz.own : ownKnob Tryz.prog.godebug = none := by kernel_rfl
set_option maxRecDepth 100000 in
theorem lexValues_lifted (os : Os) (started : os.Started) (H : Type) (enc : TypeId × Value → H) :
    ReturnsInHanded {} Tryz.checked os 3 .any (fun w args => (Rows.lexValuesSpec.pre enc Tryz.prog Tryz.f3 [] false w args ∧ laidMetH Tryz.prog Rows.lexValuesRow.laid w) ∧ sizedMet enc Tryz.prog Tryz.f3 (OpenSpec.ofChange Rows.lexValuesSpec) false w args)
      (Rows.lexValuesSpec.post enc Tryz.prog Tryz.f3 false true false false) := by
  refine returnsInHanded_of_change_and (C := Tryz.checked) (X := fun w _ => laidMetH Tryz.prog Rows.lexValuesRow.laid w) (fun _ _ _ hh h => h.of_heap hh) Tryz.own started (by kernel_rfl) Tryz.func3
    (ChangeSpec.witness_shaped (enc := enc) (C := Tryz.checked) (os := os) (X := fun w _ => laidMetH Tryz.prog Rows.lexValuesRow.laid w) false (World.laidAll Tryz.prog os Rows.lexValuesRow.laid) #[.string ⟨#[]⟩, .int .i64 0] 8 (World.laidAll_os _ _ _)
      (World.shaped_of_ZipB (by kernel_rfl) (by kernel_rfl)) (by kernel_rfl) (by kernel_rfl) (by kernel_rfl)
      (by rw [MakeChecks.laidMetH_plain _ _ _ (by kernel_rfl)]; exact laidMet_laidAll _ (by kernel_rfl) (by kernel_rfl))) ?_
  intro W base args ds gs before hval0 hW _ hsz0 hL _
  have hval : ∀ (j : Nat) t v, Tryz.f3.params[j]? = some t → args[j]? = some v → Value.okWide Tryz.prog W .any base t v := hval0
  have hW' := hW
  obtain ⟨p, q, hA0, hV, rfl, _, _⟩ := hW
  have hA : DataW.TrodAll enc Tryz.prog W 0 (fun _ => true) true Tryz.f3.params.toList args.toList ds p := hA0
  rw [Tryz.params3] at hA hval
  obtain ⟨v0, v1, d0, d1, p0, p1, rfl, rfl, rfl, h0, h1⟩ := trodAll_two hA
  obtain ⟨rfl, rfl⟩ := trodVars_none hV
  obtain ⟨s, rfl, rfl, rfl, ws⟩ := open_string Tryz.underlying9 (hval 0 9 v0 rfl rfl) h0
  obtain ⟨n, rfl, rfl, rfl, wn⟩ := open_int Tryz.underlying2 (hval 1 2 v1 rfl rfl) h1
  simp only [List.append_nil] at hW'
  have hn : -9223372036854775808 ≤ n ∧ n ≤ 9223372036854775807 := by simpa [Lit.wf, IntKind.min, IntKind.max, IntKind.signed, IntKind.bits] using wn
  have hs : s.size ≤ 140737488351232 := by
    have := List.all_eq_true.1 hsz0 _ (DataW.weights_mem_each (j := 0) (t := 9) rfl rfl s.data.toList.length (by
      show _ ∈ DataW.weights Tryz.prog 9 _
      simp [DataW.weights]))
    have h2 : s.data.toList.length ≤ reachBytes := by simpa using this
    rw [← size_len] at h2
    simpa [reachBytes] using h2
  rw [MakeChecks.laidMetH_plain _ _ _ (by kernel_rfl)] at hL
  refine (lexValues_true pf_all s hs n hn.1 hn.2 W (laid_of hL)).mono fun e W' ⟨he, hb⟩ => ?_
  subst he
  exact ⟨_, rfl, _, _, _, [], [], [], hW', trodAll_mk1 (shut_bool Tryz.underlying4 _), trodAll_mk2 (shut_string Tryz.underlying9 ws) (shut_int Tryz.underlying2 wn), rfl, hb.frame _, fun h => by cases h⟩
theorem lexValues_holds : Rows.LexValuesSaid :=
  OpenClaim.holds_of_wide 3 Tryz.f3 rfl rfl rfl rfl rfl rfl rfl ⟨rfl, rfl, rfl, rfl, rfl⟩ rfl rfl rfl rfl rfl (by kernel_rfl) Tryz.func3 (by kernel_rfl)
    (of_decide_eq_true (by kernel_rfl)) (by unfold Func.isWrapper; first | (rw [if_pos (by decide +kernel)]; kernel_rfl) | (rw [if_neg (by decide +kernel)]; exact ⟨rfl, rfl⟩))
    (fun os started H enc _ => lexValues_lifted os started H enc)
theorem lexValues_card_holds : Rows.LexValuesCardSaid :=
  Claim7.holds_tied_plain_at .later [] [.data, .data, .widerDeep, .widerDeep, .data, .data, .data, .data, .data, .data, .sentinel, .sentinel, .pinned, .pinned, .pinned] true (true, "3cc77944d11843fe1d5be2b7fbca7194e80a11c14fcc744d9fc18a021002427b") true lexValues_holds (fun _ h => by cases h) (by kernel_rfl) (fun _ h => by cases h) lexValues_row_tie rfl ⟨rfl, rfl⟩ (by kernel_rfl) rfl
    (fun f fn hf hfn => by
      obtain rfl : f = 3 := Option.some.inj ((show Tryz.prog.funcNamed "tocsin/tocsinlaw13.LexValues" = some 3 by kernel_rfl).symm.trans hf) |>.symm
      obtain rfl : fn = Tryz.f3 := (Option.some.inj (Tryz.func3.symm.trans hfn)).symm
      exact ⟨by kernel_rfl, fun j t ht => by
        rw [Tryz.params3] at ht
        have hm : t ∈ [9, 2] := by simpa using Array.mem_of_getElem? ht
        have hall : ([9, 2].all fun u => !Tryz.prog.wantsStandIn u) = true := by kernel_rfl
        exact (show Tryz.prog.wantsStandIn t = false by simpa using List.all_eq_true.1 hall t hm)⟩)
    (by kernel_rfl)
#print axioms lexValues_card_holds
end Go.Proofs.YtmfnkilohicapaaGreatDoor
