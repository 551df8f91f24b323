/- atof64 at a decimal text: it answers, whatever the memory. -/
import Derived.Test.YtmfnkilohicapaaGreatDoorDl
namespace Go.Proofs.YtmfnkilohicapaaGreatDoor
open Go.RowKit

def zeroCs : Array Value := ((List.replicate 800 (Value.int .u8 0) ++ [Value.int .i64 0, Value.int .i64 0, Value.bool false, Value.bool false] : List Value)).toArray
theorem zeroCs_eq : Tryz.zeroCells154 = zeroCs := by kernel_rfl
theorem zeroCs_at (i : Nat) (h : i < 800) : zeroCs[i]? = some (.int .u8 0) := by
  unfold zeroCs
  rw [List.getElem?_toArray, List.getElem?_append_left (by rw [List.length_replicate]; exact h), List.getElem?_replicate, if_pos h]
theorem zeroCs_800 : zeroCs[800]? = some (.int .i64 0) := by kernel_rfl
theorem zeroCs_801 : zeroCs[801]? = some (.int .i64 0) := by kernel_rfl
theorem zeroCs_802 : zeroCs[802]? = some (.bool false) := by kernel_rfl
theorem zeroCs_803 : zeroCs[803]? = some (.bool false) := by kernel_rfl
theorem decAt_new {w : World} {b : Nat} (h : w.heap[b]? = some (.cells Tryz.zeroCells154 154 (0, 0))) : DecAt w b zeroD := by
  rw [zeroCs_eq] at h
  refine ⟨fun i hi => ?_, ?_, ?_, ?_, ?_, fun i => Lib.frozen_of_heap h i⟩
  · rw [Lib.cell_of_heap h, zeroCs_at i hi]; rfl
  · rw [Lib.cell_of_heap h, zeroCs_800]; rfl
  · rw [Lib.cell_of_heap h, zeroCs_801]; rfl
  · rw [Lib.cell_of_heap h, zeroCs_802]
  · rw [Lib.cell_of_heap h, zeroCs_803]; rfl
/-- The mantissa is a number of at most 19 digits, and not 0. -/
theorem mt_inv (ds : List UInt8) : ∀ (t : Int × Nat × Bool), (∃ d : Nat, t.1 = d ∧ d < 10 ^ t.2.1) → t.2.1 ≤ 19 → AllDig ds → ∃ d : Nat, (ds.foldl mtStep t).1 = d ∧ d < 10 ^ (ds.foldl mtStep t).2.1 ∧ (0 < t.1 → 0 < d) := by
  induction ds with
  | nil => intro t ⟨d, h1, h2⟩ _ _; exact ⟨d, h1, h2, fun h => by omega⟩
  | cons c r ih =>
    intro t ⟨d, h1, h2⟩ h3 h4
    obtain ⟨q1, q2⟩ := (isDig_iff c).1 (h4 c (List.mem_cons_self ..))
    have hr : AllDig r := fun x hx => h4 x (List.mem_cons_of_mem _ hx)
    show ∃ d' : Nat, (r.foldl mtStep (mtStep t c)).1 = d' ∧ d' < 10 ^ (r.foldl mtStep (mtStep t c)).2.1 ∧ (0 < t.1 → 0 < d')
    by_cases hn : t.2.1 < 19
    · have hstep : mtStep t c = (IntKind.u64.wrap (IntKind.u64.wrap (t.1 * 10) + ((c.toNat : Int) - 48)), t.2.1 + 1, t.2.2) := by unfold mtStep; rw [if_pos hn]
      have hp : 10 ^ t.2.1 ≤ 10 ^ 18 := Nat.pow_le_pow_right (by decide) (by omega)
      have e1 : IntKind.u64.wrap (t.1 * 10) = t.1 * 10 := u64_lt (by omega) (by omega)
      have e2 : IntKind.u64.wrap (IntKind.u64.wrap (t.1 * 10) + ((c.toNat : Int) - 48)) = t.1 * 10 + ((c.toNat : Int) - 48) := by rw [e1]; exact u64_lt (by omega) (by omega)
      rw [hstep, e2]
      have hd : t.1 * 10 + ((c.toNat : Int) - 48) = ((d * 10 + (c.toNat - 48) : Nat) : Int) := by omega
      obtain ⟨d', x1, x2, x3⟩ := ih (t.1 * 10 + ((c.toNat : Int) - 48), t.2.1 + 1, t.2.2) ⟨d * 10 + (c.toNat - 48), hd, by show _ < 10 ^ (t.2.1 + 1); rw [Nat.pow_succ]; omega⟩ (by show t.2.1 + 1 ≤ 19; omega) hr
      exact ⟨d', x1, x2, fun h => x3 (by show 0 < t.1 * 10 + ((c.toNat : Int) - 48); omega)⟩
    · have hstep : mtStep t c = (t.1, t.2.1, t.2.2 || (c != 48)) := by unfold mtStep; rw [if_neg hn]
      rw [hstep]
      exact ih (t.1, t.2.1, t.2.2 || (c != 48)) ⟨d, h1, h2⟩ h3 hr
theorem mt_val {x : ByteArray} {ds es : List UInt8} {ng : Bool} {P : Nat} (h : DText x ds es ng P) : ∃ d : Nat, (mt ds).1 = d ∧ 0 < d ∧ d < 10000000000000000000 := by
  obtain ⟨c, r, rfl⟩ : ∃ c r, ds = c :: r := by
    cases hd : ds with
    | nil => exact absurd hd h.some_
    | cons c r => exact ⟨c, r, rfl⟩
  obtain ⟨q1, q2⟩ := (isDig_iff c).1 (h.dig c (List.mem_cons_self ..))
  have hne := h.nz c rfl
  have h48 : c.toNat ≠ 48 := fun e => hne (byte_of (n := 48) (by decide) (by omega))
  have hr : AllDig r := fun x hx => h.dig x (List.mem_cons_of_mem _ hx)
  have hstep : mtStep (0, 0, false) c = (((c.toNat - 48 : Nat) : Int), 1, false) := by
    unfold mtStep
    rw [if_pos (by decide)]
    have e1 : IntKind.u64.wrap ((0 : Int) * 10) = 0 := by decide
    have e2 : IntKind.u64.wrap (IntKind.u64.wrap ((0 : Int) * 10) + ((c.toNat : Int) - 48)) = ((c.toNat - 48 : Nat) : Int) := by rw [e1, u64_lt (by omega) (by omega)]; omega
    simp only [e2]
  obtain ⟨d, x1, x2, x3⟩ := mt_inv r (((c.toNat - 48 : Nat) : Int), 1, false) ⟨c.toNat - 48, rfl, by show _ < 10 ^ 1; omega⟩ (by show 1 ≤ 19; decide) hr
  have hm : mt (c :: r) = r.foldl mtStep (((c.toNat - 48 : Nat) : Int), 1, false) := by unfold mt; rw [List.foldl_cons, hstep]
  have hle := mt_le (c :: r)
  rw [hm] at hle ⊢
  refine ⟨d, x1, x3 (by show (0 : Int) < ((c.toNat - 48 : Nat) : Int); omega), ?_⟩
  have hp : 10 ^ (r.foldl mtStep (((c.toNat - 48 : Nat) : Int), 1, false)).2.1 ≤ 10 ^ 19 := Nat.pow_le_pow_right (by decide) hle
  omega
theorem slow_below3 {w w2 w3 w4 : World} {o : Obj} (h2 : Below w.heap.size w w2) (h3 : Below w2.heap.size w2 w3) (h4 : Below w3.heap.size (w3.alloc o) w4) : Below w.heap.size w w4 := by
  have h23 := h2.trans (h3.mono h2.size)
  exact (h23.trans ((Below.refl _ _).alloc h23.size o)).trans (h4.mono h23.size)
theorem slow_below {w w2 w3 w4 w5 : World} {o : Obj} (h2 : Below w.heap.size w w2) (h3 : Below w2.heap.size w2 w3) (h4 : Below w3.heap.size (w3.alloc o) w4) (h5 : Below w3.heap.size w4 w5) : Below w.heap.size w w5 :=
  (slow_below3 h2 h3 h4).trans (h5.mono (h2.trans (h3.mono h2.size)).size)
theorem slow_tabs {w w2 w3 w4 : World} {o : Obj} (hT : Laid w) (h2 : Below w.heap.size w w2) (h3 : Below w2.heap.size w2 w3) (h4 : Below w3.heap.size (w3.alloc o) w4) : TabsB w3.heap.size w4 :=
  fun _ h5 => hT.at_ (slow_below h2 h3 h4 h5)
def Atof (x : ByteArray) (r : Nat) (er : Value) : Prop := ∀ w, Laid w → Calls Tryz.prog 80 #[.string x] w fun e w' => e = .returned (.tuple #[.float .f64 r, .int .i64 x.size, er]) ∧ Below w.heap.size w w'
set_option maxRecDepth 100000 in
set_option maxHeartbeats 4000000 in
theorem atof64_dec {x : ByteArray} {ds es : List UInt8} {ng : Bool} {P : Nat} (hx : DText x ds es ng P) : ∃ r er, ErrOk er ∧ Atof x r er := by
  obtain ⟨h1, hx0⟩ := byte_at hx.b0
  have hs := hx.size
  have hsp := fun wx => special_zero x h1 hx0 wx
  have hrf := fun wx => readFloat_dec x ds es ng P hx wx
  obtain ⟨d, hd, hd0, hd1⟩ := mt_val hx
  obtain ⟨p, hp⟩ : ∃ p : Int, (if (mt ds).1 = 0 then 0 else eVal ng es - ((mt ds).2.1 : Nat)) = p := ⟨_, rfl⟩
  obtain ⟨tr, htr⟩ : ∃ tr, (mt ds).2.2 = tr := ⟨_, rfl⟩
  rw [hp, htr, hd] at hrf
  have HB0 : Hid (∀ wx : World, Calls Tryz.prog 109 #[.bool false] wx fun e w' => e = .returned (.int .u64 0) ∧ wx = w') := fun wx => bool2_u64 false wx
  have Hsp := Lib.hid hsp
  have Hrf := Lib.hid hrf
  have hd0' : ((d : Int) == 0) = false := beq_eq_false_iff_ne.2 (by omega)
  have hfb := frombits
  clear hsp hrf hd hp htr hx0
  by_cases hp1 : 310 < p
  · refine ⟨(bits BinOp.or IntKind.u64 0 9218868437227405312).toNat, .iface 87 (.int .i64 1), Or.inr rfl, fun w hT => ?_⟩
    have ho := hT.here.opt
    clear hT
    go_enter Tryz.func80, Tryz.ntmps80
    go_wp2_with (first
      | (go_at_call 100; refine (Hsp.out _).mono ?_; rintro e w' ⟨rfl, rfl⟩)
      | (go_at_call 101; refine (Hrf.out _).mono ?_; rintro e w' ⟨rfl, rfl⟩)
      | (go_at_call 109; refine (HB0.out _).mono ?_; rintro e w' ⟨rfl, rfl⟩))
    go_ret3
    exact ⟨rfl, Below.refl _ _⟩
  · by_cases hp2 : p < -345
    · refine ⟨(bits BinOp.or IntKind.u64 0 0).toNat, .nilIface, Or.inl rfl, fun w hT => ?_⟩
      have ho := hT.here.opt
      clear hT
      go_enter Tryz.func80, Tryz.ntmps80
      go_wp2_with (first
        | (go_at_call 100; refine (Hsp.out _).mono ?_; rintro e w' ⟨rfl, rfl⟩)
        | (go_at_call 101; refine (Hrf.out _).mono ?_; rintro e w' ⟨rfl, rfl⟩)
        | (go_at_call 109; refine (HB0.out _).mono ?_; rintro e w' ⟨rfl, rfl⟩))
      go_ret3
      exact ⟨rfl, Below.refl _ _⟩
    · obtain ⟨r, er, her, hpf⟩ := parse64_ d hd0 (by omega) p (by omega) (by omega)
      have Hpf := Lib.hid hpf
      clear hpf
      cases tr
      · obtain ⟨fx, ok, hex⟩ := exact_ d p (by omega) (by omega)
        have Hex := Lib.hid hex
        clear hex
        cases ok
        · refine ⟨r, er, her, fun w hT => ?_⟩
          have ho := hT.here.opt
          have HT := Lib.hid hT
          clear hT her
          go_enter Tryz.func80, Tryz.ntmps80
          go_wp2_with (first
            | (go_at_call 100; refine (Hsp.out _).mono ?_; rintro e w' ⟨rfl, rfl⟩)
            | (go_at_call 101; refine (Hrf.out _).mono ?_; rintro e w' ⟨rfl, rfl⟩)
            | (go_at_call 109; refine (HB0.out _).mono ?_; rintro e w' ⟨rfl, rfl⟩)
            | (go_at_call 111; refine (Hex.out _ HT.out).mono ?_; rintro e w' ⟨rfl, rfl⟩)
            | (go_at_call 112; refine (Hpf.out _ HT.out).mono ?_; rintro e w2 ⟨rfl, hb2⟩))
          go_ret3
          exact ⟨rfl, hb2⟩
        · refine ⟨fx, .nilIface, Or.inl rfl, fun w hT => ?_⟩
          have ho := hT.here.opt
          have HT := Lib.hid hT
          clear hT her
          go_enter Tryz.func80, Tryz.ntmps80
          go_wp2_with (first
            | (go_at_call 100; refine (Hsp.out _).mono ?_; rintro e w' ⟨rfl, rfl⟩)
            | (go_at_call 101; refine (Hrf.out _).mono ?_; rintro e w' ⟨rfl, rfl⟩)
            | (go_at_call 109; refine (HB0.out _).mono ?_; rintro e w' ⟨rfl, rfl⟩)
            | (go_at_call 111; refine (Hex.out _ HT.out).mono ?_; rintro e w' ⟨rfl, rfl⟩))
          go_ret3
          exact ⟨rfl, Below.refl _ _⟩
      · obtain ⟨r1, er1, her1, hpf1⟩ := parse64_ (d + 1) (by omega) (by omega) p (by omega) (by omega)
        have Hpf1 := Lib.hid hpf1
        clear hpf1 her1
        by_cases hq : FloatKind.f64.format.order r r1 = some Ordering.eq
        · have hq' : (FloatKind.f64.format.order r r1 == some Ordering.eq) = true := by rw [hq]; rfl
          refine ⟨r, er, her, fun w hT => ?_⟩
          have ho := hT.here.opt
          have HT := Lib.hid hT
          clear hT her hq
          go_enter Tryz.func80, Tryz.ntmps80
          go_wp2_with (first
            | (go_at_call 100; refine (Hsp.out _).mono ?_; rintro e w' ⟨rfl, rfl⟩)
            | (go_at_call 101; refine (Hrf.out _).mono ?_; rintro e w' ⟨rfl, rfl⟩)
            | (go_at_call 109; refine (HB0.out _).mono ?_; rintro e w' ⟨rfl, rfl⟩)
            | (go_at_call 112; (with_reducible refine (Hpf.out _ HT.out).mono ?_); rintro e w2 ⟨rfl, hb2⟩)
            | (go_at_call 112; refine (Hpf1.out _ (HT.out.below hb2)).mono ?_; rintro e w3 ⟨rfl, hb3⟩))
          go_ret3
          exact ⟨rfl, hb2.trans (hb3.mono hb2.size)⟩
        · have hq' : (FloatKind.f64.format.order r r1 == some Ordering.eq) = false := beq_eq_false_iff_ne.2 hq
          obtain ⟨B, ov, hB⟩ := floatBits_ (setD ds es ng) (setD_good hx)
          have hset := fun b wx hD => set_dec x ds es ng P hx b wx hD
          have Hset := Lib.hid hset
          have HB := Lib.hid hB
          have hex : x.extract 0 x.size = x := ByteArray.extract_zero_size
          clear hset hB hq her
          cases ov
          · refine ⟨B.toNat, .nilIface, Or.inl rfl, fun w hT => ?_⟩
            have ho := hT.here.opt
            have HT := Lib.hid hT
            clear hT
            go_enter Tryz.func80, Tryz.ntmps80
            go_wp2_with (first
              | (go_at_call 100; refine (Hsp.out _).mono ?_; rintro e w' ⟨rfl, rfl⟩)
              | (go_at_call 101; refine (Hrf.out _).mono ?_; rintro e w' ⟨rfl, rfl⟩)
              | (go_at_call 109; refine (HB0.out _).mono ?_; rintro e w' ⟨rfl, rfl⟩)
              | (go_at_call 112; (with_reducible refine (Hpf.out _ HT.out).mono ?_); rintro e w2 ⟨rfl, hb2⟩)
              | (go_at_call 112; refine (Hpf1.out _ (HT.out.below hb2)).mono ?_; rintro e w3 ⟨rfl, hb3⟩)
              | (go_at_call 107; refine (Hset.out _ _ (decAt_new (heap_alloc_new _ _))).mono ?_; rintro e w4 ⟨rfl, hda4, hb4⟩; have Hda4 := Lib.hid hda4; clear hda4)
              | (go_at_call 108; refine (HB.out w3.heap.size w4 (slow_tabs HT.out hb2 hb3 hb4) Hda4.out).mono ?_; rintro e w5 ⟨rfl, hb5⟩))
            go_ret3
            exact ⟨rfl, slow_below hb2 hb3 hb4 hb5⟩
          · refine ⟨B.toNat, .iface 87 (.int .i64 1), Or.inr rfl, fun w hT => ?_⟩
            have ho := hT.here.opt
            have HT := Lib.hid hT
            clear hT
            go_enter Tryz.func80, Tryz.ntmps80
            go_wp2_with (first
              | (go_at_call 100; refine (Hsp.out _).mono ?_; rintro e w' ⟨rfl, rfl⟩)
              | (go_at_call 101; refine (Hrf.out _).mono ?_; rintro e w' ⟨rfl, rfl⟩)
              | (go_at_call 109; refine (HB0.out _).mono ?_; rintro e w' ⟨rfl, rfl⟩)
              | (go_at_call 112; (with_reducible refine (Hpf.out _ HT.out).mono ?_); rintro e w2 ⟨rfl, hb2⟩)
              | (go_at_call 112; refine (Hpf1.out _ (HT.out.below hb2)).mono ?_; rintro e w3 ⟨rfl, hb3⟩)
              | (go_at_call 107; refine (Hset.out _ _ (decAt_new (heap_alloc_new _ _))).mono ?_; rintro e w4 ⟨rfl, hda4, hb4⟩; have Hda4 := Lib.hid hda4; clear hda4)
              | (go_at_call 108; refine (HB.out w3.heap.size w4 (slow_tabs HT.out hb2 hb3 hb4) Hda4.out).mono ?_; rintro e w5 ⟨rfl, hb5⟩))
            go_ret3
            exact ⟨rfl, slow_below hb2 hb3 hb4 hb5⟩
end Go.Proofs.YtmfnkilohicapaaGreatDoor

/- ParseFloat answers, if atof64 does; so it answers at decimal texts. -/
namespace Go.Proofs.YtmfnkilohicapaaGreatDoor
open Go.RowKit

set_option maxRecDepth 100000 in
set_option maxHeartbeats 1000000 in
theorem prefix_of {x : ByteArray} {r : Nat} {er : Value} (h : Atof x r er) (w : World) (hT : Laid w) : Calls Tryz.prog 49 #[.string x, .int .i64 64] w fun e w' => e = .returned (.tuple #[.float .f64 r, .int .i64 x.size, er]) ∧ Below w.heap.size w w' := by
  have H := Lib.hid h
  have HT := Lib.hid hT
  clear h hT
  go_enter Tryz.func49, Tryz.ntmps49
  go_wp2_with (go_at_call 80; refine (H.out _ HT.out).mono ?_; rintro e w2 ⟨rfl, hb2⟩)
  go_ret3
  exact ⟨rfl, hb2⟩
set_option maxRecDepth 100000 in
set_option maxHeartbeats 1000000 in
theorem inner_of {x : ByteArray} {r : Nat} {er : Value} (h : Atof x r er) (w : World) (hT : Laid w) : Calls Tryz.prog 27 #[.string x, .int .i64 64] w fun e w' => e = .returned (.tuple #[.float .f64 r, er]) ∧ Below w.heap.size w w' := by
  have H := Lib.hid h
  have HT := Lib.hid hT
  have hne : ((x.size : Int) != (x.size : Int)) = false := by simp
  clear h hT
  go_enter Tryz.func27, Tryz.ntmps27
  go_wp2_with (go_at_call 49; refine (prefix_of H.out _ HT.out).mono ?_; rintro e w2 ⟨rfl, hb2⟩)
  go_ret2
  exact ⟨rfl, hb2⟩
set_option maxRecDepth 100000 in
set_option maxHeartbeats 1000000 in
theorem pf_of_atof {x : ByteArray} (hs : x.size ≤ 140737488355328) {r : Nat} {er : Value} (her : ErrOk er) (h : Atof x r er) : PFspec x r := by
  intro w hT
  have H := Lib.hid h
  have HT := Lib.hid hT
  clear h hT
  rcases her with rfl | rfl
  · go_enter Tryz.func13, Tryz.ntmps13
    go_wp2_with (go_at_call 27; refine (inner_of H.out _ HT.out).mono ?_; rintro e w2 ⟨rfl, hb2⟩)
    go_ret2
    exact ⟨⟨_, rfl⟩, hb2⟩
  · go_enter Tryz.func13, Tryz.ntmps13
    go_wp2_with (first
      | (go_at_call 27; refine (inner_of H.out _ HT.out).mono ?_; rintro e w2 ⟨rfl, hb2⟩; obtain ⟨tp, pp, hev⟩ := (HT.out.at_ hb2).err; have Hev := Lib.hid hev; clear hev)
      | (go_at_call 28; refine (Tryz.strconv_toError_range _ x 0 64 _ w2 (by omega) Hev.out (Or.inr ⟨tp, pp, rfl⟩)).mono ?_; rintro e w3 ⟨N, rfl, hN1, hN2, hb3⟩))
    go_ret2
    exact ⟨⟨_, rfl⟩, hb2.trans (hb3.mono hb2.size)⟩
theorem pf_dec {x : ByteArray} {ds es : List UInt8} {ng : Bool} {P : Nat} (hx : DText x ds es ng P) : ∃ b, PFspec x b := by
  obtain ⟨r, er, h1, h2⟩ := atof64_dec hx
  exact ⟨r, pf_of_atof hx.size h1 h2⟩
theorem dec_digs (u : Nat) : AllDig (Lib.decDigits u) ∧ Lib.decDigits u ≠ [] := by
  induction u using Nat.strongRecOn with
  | ind u ih =>
    have hd : ∀ k, k < 10 → isDig (UInt8.ofNat (48 + k)) = true := by
      intro k hk
      have : ∀ k : Fin 10, isDig (UInt8.ofNat (48 + k.val)) = true := by decide
      exact this ⟨k, hk⟩
    unfold Lib.decDigits
    by_cases h : u < 10
    · rw [dif_pos h]
      refine ⟨fun c hc => ?_, by simp⟩
      rw [List.mem_singleton.1 hc]
      exact hd u h
    · rw [dif_neg h]
      obtain ⟨h1, h2⟩ := ih (u / 10) (by omega)
      refine ⟨fun c hc => ?_, by simp⟩
      rcases List.mem_append.1 hc with h3 | h3
      · exact h1 c h3
      · rw [List.mem_singleton.1 h3]
        exact hd _ (by omega)
theorem dec_len (u : Nat) (h : u ≤ 1000) : (Lib.decDigits u).length ≤ 4 := by
  unfold Lib.decDigits
  split
  · simp
  · unfold Lib.decDigits
    split
    · simp
    · unfold Lib.decDigits
      split
      · simp
      · unfold Lib.decDigits
        rw [dif_pos (by omega)]
        simp
theorem get_app {a b : List UInt8} {n : Nat} (k : Nat) (h : n = a.length + k) : (a ++ b)[n]? = b[k]? := by
  rw [h, List.getElem?_append_right (by omega)]
  congr 1
  omega
/-- A decimal text in the words of the walks. -/
theorem dtext_of {x : ByteArray} (h : IsDecText x) : ∃ ds es ng P, DText x ds es ng P := by
  obtain ⟨c, d, A, hdig, hc, hA1, hA2, hlen, hx⟩ := h
  obtain ⟨hes1, hes2⟩ := dec_digs A.natAbs
  have hel := dec_len A.natAbs (by omega)
  obtain ⟨es, hes⟩ : ∃ es, Lib.decDigits A.natAbs = es := ⟨_, rfl⟩
  rw [hes] at hes1 hes2 hel
  have hi : Lib.itoa A = (if A < 0 then [45] else []) ++ es := by
    unfold Lib.itoa
    by_cases hn : A < 0
    · rw [if_pos hn, if_pos hn, hes]; rfl
    · rw [if_neg hn, if_neg hn, ← hes]
      simp
      congr 1
      omega
  have hl : x.data.toList = 48 :: 46 :: (c :: d ++ (101 :: ((if A < 0 then [45] else []) ++ es))) := by
    rw [hx, hi]
    simp
  have hsz : x.size = x.data.toList.length := size_len x
  by_cases hn : A < 0
  · rw [if_pos hn] at hl
    refine ⟨c :: d, es, true, 2 + (c :: d).length + 2, ?_, by rw [hl]; rfl, by rw [hl]; rfl, hdig, by simp, fun y hy => ?_, fun k y hy => ?_, ?_, fun _ => ⟨?_, rfl⟩, (fun h => by cases h), hes1, hes2, fun k y hy => ?_, ?_⟩
    · rw [hsz, hl]; simp; omega
    · injection hy with hy; rw [← hy]; exact hc
    · have e : x.data.toList = [48, 46] ++ ((c :: d) ++ (101 :: ([45] ++ es))) := by rw [hl]; rfl
      rw [e, get_app k (by simp)]
      obtain ⟨hk, hv⟩ := List.getElem?_eq_some_iff.1 hy
      rw [List.getElem?_append_left hk]
      exact hy
    · have e : x.data.toList = ([48, 46] ++ (c :: d)) ++ (101 :: ([45] ++ es)) := by rw [hl]; simp
      rw [e, get_app 0 (by simp; omega)]
      rfl
    · have e : x.data.toList = ([48, 46] ++ (c :: d)) ++ (101 :: ([45] ++ es)) := by rw [hl]; simp
      rw [e, get_app 1 (by simp; omega)]
      rfl
    · have e : x.data.toList = ([48, 46] ++ (c :: d) ++ [101, 45]) ++ es := by rw [hl]; simp
      rw [e, get_app k (by simp; omega)]
      exact hy
    · rw [hsz, hl]; simp; omega
  · rw [if_neg hn] at hl
    refine ⟨c :: d, es, false, 2 + (c :: d).length + 1, ?_, by rw [hl]; rfl, by rw [hl]; rfl, hdig, by simp, fun y hy => ?_, fun k y hy => ?_, ?_, (fun h => by cases h), (fun _ => rfl), hes1, hes2, fun k y hy => ?_, ?_⟩
    · rw [hsz, hl]; simp; omega
    · injection hy with hy; rw [← hy]; exact hc
    · have e : x.data.toList = [48, 46] ++ ((c :: d) ++ (101 :: es)) := by rw [hl]; rfl
      rw [e, get_app k (by simp)]
      obtain ⟨hk, hv⟩ := List.getElem?_eq_some_iff.1 hy
      rw [List.getElem?_append_left hk]
      exact hy
    · have e : x.data.toList = ([48, 46] ++ (c :: d)) ++ (101 :: es) := by rw [hl]; simp
      rw [e, get_app 0 (by simp; omega)]
      rfl
    · have e : x.data.toList = ([48, 46] ++ (c :: d) ++ [101]) ++ es := by rw [hl]; simp
      rw [e, get_app k (by simp; omega)]
      exact hy
    · rw [hsz, hl]; simp; omega
theorem pf_isDec {x : ByteArray} (h : IsDecText x) : ∃ b, PFspec x b := by
  obtain ⟨ds, es, ng, P, hx⟩ := dtext_of h
  exact pf_dec hx
end Go.Proofs.YtmfnkilohicapaaGreatDoor
