/- A scope with two labels ahead; the two loops of floatBits as chains of shifts. -/
import Derived.Test.YtmfnkilohicapaaGreatDoorDh
namespace Go.Proofs.YtmfnkilohicapaaGreatDoor
open Go.RowKit

/-- As Q; by a goto to one of two labels: what is asked there. -/
def via (l0 l1 : Nat) (J0 J1 : Act → World → Prop) (Q : Exit → Act → World → Prop) : Exit → Act → World → Prop
  | .goto l, a, w => (l = l0 ∧ J0 a w) ∨ (l = l1 ∧ J1 a w)
  | e, a, w => Q e a w
theorem via_ret {l0 l1 : Nat} {J0 J1 : Act → World → Prop} {Q : Exit → Act → World → Prop} {a : Act} {w : World} : via l0 l1 J0 J1 Q .ret a w = Q .ret a w := rfl
theorem via_first {l0 l1 : Nat} {J0 J1 : Act → World → Prop} {Q : Exit → Act → World → Prop} {a : Act} {w : World} (h : J0 a w) : via l0 l1 J0 J1 Q (.goto l0) a w := Or.inl ⟨rfl, h⟩
theorem via_second {l0 l1 : Nat} {J0 J1 : Act → World → Prop} {Q : Exit → Act → World → Prop} {a : Act} {w : World} (h : J1 a w) : via l0 l1 J0 J1 Q (.goto l1) a w := Or.inr ⟨rfl, h⟩
/-- A scope that is left by one jump ahead at most. -/
theorem scope_two {P : Program} {a : Act} {w : World} {Q : Exit → Act → World → Prop} {c r0 r1 : Code} {l0 l1 : Nat} (h0 : findLabel c l0 = some r0) (h1 : findLabel c l1 = some r1)
    (first : ∀ J0 J1 : Act → World → Prop, (∀ a w, r0.wp P (Exit.noGoto Q) a w → J0 a w) → (∀ a w, r1.wp P (Exit.noGoto Q) a w → J1 a w) → c.wp P (via l0 l1 J0 J1 Q) a w) : (Code.scope c).wp P Q a w := by
  intro b k cs
  have tail : ∀ (r : Code) (l : Nat) (a1 : Act) (w1 : World), findLabel c l = some r → r.wp P (Exit.noGoto Q) a1 w1 → (∀ k', gotoIn l (.inScope c :: k) = some k' → Steps P (lone (b.at a (.code (.scope c) :: k)) cs w) (lone (b.at a1 k') cs w1)) → ∃ e a' w', Q e a' w' ∧ Arrives P (lone (b.at a (.code (.scope c) :: k)) cs w) b k cs e a' w' := by
    intro r l a1 w1 hf hr hs
    have hg : gotoIn l (.inScope c :: k) = some (.code r :: .inScope c :: k) := by simp [gotoIn, hf]
    have hs := hs _ hg
    obtain ⟨e2, a2, w2, hq2, harr2⟩ := hr b (.inScope c :: k) cs
    cases e2 with
    | normal => exact ⟨.normal, a2, w2, hq2, Steps.trans hs (Steps.trans harr2 (.one step_inScope))⟩
    | exit id => exact ⟨.exit id, a2, w2, hq2, fun k' hk => Steps.trans hs (harr2 k' (by simp [exitTo, hk]))⟩
    | goto l => exact hq2.elim
    | ret => exact ⟨_, a2, w2, hq2, .of_steps hs harr2⟩
    | panic ch => exact ⟨_, a2, w2, hq2, .of_steps hs harr2⟩
    | outgrown => exact ⟨_, a2, w2, hq2, .of_steps hs harr2⟩
  obtain ⟨e, a1, w1, hq, harr⟩ := first (fun a w => r0.wp P (Exit.noGoto Q) a w) (fun a w => r1.wp P (Exit.noGoto Q) a w) (fun _ _ h => h) (fun _ _ h => h) b (.inScope c :: k) cs
  cases e with
  | normal => exact ⟨.normal, a1, w1, hq, .head step_scope (Steps.trans harr (.one step_inScope))⟩
  | exit id => exact ⟨.exit id, a1, w1, hq, fun k' hk => .head step_scope (harr k' (by simp [exitTo, hk]))⟩
  | goto l =>
    rcases hq with ⟨rfl, hr⟩ | ⟨rfl, hr⟩
    · exact tail r0 l a1 w1 h0 hr (fun k' hk => .head step_scope (harr k' hk))
    · exact tail r1 l a1 w1 h1 hr (fun k' hk => .head step_scope (harr k' hk))
  | ret => exact ⟨_, a1, w1, hq, .of_steps (.one step_scope) harr⟩
  | panic ch => exact ⟨_, a1, w1, hq, .of_steps (.one step_scope) harr⟩
  | outgrown => exact ⟨_, a1, w1, hq, .of_steps (.one step_scope) harr⟩

/-- How far one step shifts. -/
def pw (n : Nat) : Nat := if 9 ≤ n then 27 else powtabL[n]?.getD 0
theorem pw_in (n : Nat) : 1 ≤ pw n ∧ pw n ≤ 27 := by
  unfold pw
  split
  · decide
  · have : ∀ n : Fin 9, 1 ≤ powtabL[n.val]?.getD 0 ∧ powtabL[n.val]?.getD 0 ≤ 27 := by decide
    exact this ⟨n, by omega⟩
theorem pw_row (n : Nat) (h : n < 9) : powtabL[n]? = some (pw n) := by
  unfold pw
  rw [if_neg (by omega)]
  have : ∀ n : Fin 9, powtabL[n.val]? = some (powtabL[n.val]?.getD 0) := by decide
  exact this ⟨n, h⟩
inductive CA : Nat → Dst → Int → Dst → Int → Prop
  | nil {D : Dst} {e : Int} : Good D → D.dp ≤ 0 → CA 0 D e D e
  | step {g n : Nat} {D D1 D' : Dst} {e e' : Int} : Good D → D.dp = n → 1 ≤ n → n ≤ 310 → 0 ≤ e → e ≤ 100000 → ShQ 130 .i64 (-(pw n : Nat)) D D1 → CA g D1 (e + (pw n : Nat)) D' e' → CA (g + 1) D e D' e'
theorem ca_ex (m : Nat) : ∀ (D : Dst) (e : Int), Good D → -330 ≤ D.dp → D.dp ≤ 310 → D.dp.toNat * 10 + (D.d 0 - 48) ≤ m → 0 ≤ e → e + 27 * m ≤ 100000 → ∃ g D' e', CA g D e D' e' ∧ Good D' ∧ D'.dp ≤ 0 ∧ -330 ≤ D'.dp ∧ 0 ≤ e' ∧ e' ≤ 100000 := by
  induction m with
  | zero =>
    intro D e hg h1 h2 h3 h4 h5
    have ha := hg.dig 0 hg.n1
    have hb := hg.hd
    omega
  | succ m ih =>
    intro D e hg h1 h2 h3 h4 h5
    by_cases h0 : D.dp ≤ 0
    · exact ⟨0, D, e, .nil hg h0, hg, h0, h1, h4, by omega⟩
    · obtain ⟨n, hn⟩ := Int.eq_ofNat_of_zero_le (show 0 ≤ D.dp by omega)
      have hp := pw_in n
      obtain ⟨D1, g1, a1, a2, a3, a4⟩ := right_ hg (by omega) (by omega) (pw n) hp.1 (by omega)
      have hs : ShQ 130 .i64 (-(pw n : Nat)) D D1 := Shift_right (pw n) (by omega) (.last hp.1 (by omega) hg a4)
      have hd := hg.dig 0 hg.n1
      have hd1 := g1.dig 0 g1.n1
      have he := hg.hd
      obtain ⟨g, D', e', c1, c2, c3, c4, c5, c6⟩ := ih D1 (e + (pw n : Nat)) g1 (by omega) (by omega) (by omega) (by omega) (by omega)
      exact ⟨g + 1, D', e', .step hg hn (by omega) (by omega) h4 (by omega) hs c1, c2, c3, c4, c5, c6⟩
inductive CB : Nat → Dst → Int → Dst → Int → Prop
  | nil {D : Dst} {e : Int} : Good D → (0 < D.dp ∨ (D.dp = 0 ∧ 53 ≤ D.d 0)) → CB 0 D e D e
  | step {g n : Nat} {D D1 D' : Dst} {e e' : Int} : Good D → D.dp = -(n : Nat) → (1 ≤ n ∨ D.d 0 < 53) → n ≤ 330 → -100000 ≤ e → e ≤ 100000 → ShR 130 .i64 (pw n : Nat) D D1 → CB g D1 (e - (pw n : Nat)) D' e' → CB (g + 1) D e D' e'
theorem cb_ex (m : Nat) : ∀ (D : Dst) (e : Int), Good D → -330 ≤ D.dp → D.dp ≤ 19 → (-D.dp).toNat * 10 + (57 - D.d 0) < m → e ≤ 100000 → -100000 ≤ e - 27 * m → ∃ g D' e', CB g D e D' e' ∧ Good D' ∧ D'.dp ≤ 19 ∧ 0 ≤ D'.dp ∧ -100000 ≤ e' ∧ e' ≤ 100000 := by
  induction m with
  | zero => intro D e hg h1 h2 h3; omega
  | succ m ih =>
    intro D e hg h1 h2 h3 h4 h5
    have hd := hg.dig 0 hg.n1
    by_cases h0 : 0 < D.dp ∨ (D.dp = 0 ∧ 53 ≤ D.d 0)
    · exact ⟨0, D, e, .nil hg h0, hg, h2, by omega, by omega, h4⟩
    · obtain ⟨n, hn⟩ := Int.eq_ofNat_of_zero_le (show 0 ≤ -D.dp by omega)
      have hp := pw_in n
      obtain ⟨D1, g1, a1, a2, a3, a4⟩ := left_ hg (by omega) (by omega) (pw n) hp.1 (by omega)
      have hs : ShR 130 .i64 (pw n : Nat) D D1 := Shift_left hg (pw n) hp.1 (by omega) a4
      have hd1 := g1.dig 0 g1.n1
      have he1 := g1.hd
      by_cases hx : 0 < D1.dp
      · exact ⟨1, D1, e - (pw n : Nat), .step hg (by omega) (by omega) (by omega) (by omega) h4 hs (.nil g1 (Or.inl hx)), g1, by omega, by omega, by omega, by omega⟩
      · obtain ⟨g, D', e', c1, c2, c3, c4, c5, c6⟩ := ih D1 (e - (pw n : Nat)) g1 (by omega) (by omega) (by omega) (by omega) (by omega)
        exact ⟨g + 1, D', e', .step hg (by omega) (by omega) (by omega) (by omega) h4 hs c1, c2, c3, c4, c5, c6⟩
end Go.Proofs.YtmfnkilohicapaaGreatDoor
