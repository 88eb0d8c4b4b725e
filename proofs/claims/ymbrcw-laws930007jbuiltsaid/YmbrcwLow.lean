/-
  PLAIN: the lowest one bit of a natural number below 2^64; no Go in sight.
-/
namespace Go.Proofs.Ymbrcw.Low

/-- k is the place of the lowest one of x, or 64 where no place below 64 holds a one. -/
def IsLow (x k : Nat) : Prop := k ≤ 64 ∧ (∀ j, j < k → x.testBit j = false) ∧ (k < 64 → x.testBit k = true)

theorem isLow_unique {x k l : Nat} (h : IsLow x k) (g : IsLow x l) : k = l := by
  obtain ⟨h1, h2, h3⟩ := h
  obtain ⟨g1, g2, g3⟩ := g
  rcases Nat.lt_trichotomy k l with c | c | c
  · have := g2 k c
    rw [h3 (by omega)] at this
    cases this
  · exact c
  · have := h2 l c
    rw [g3 (by omega)] at this
    cases this

theorem isLow_zero {k : Nat} (h : IsLow 0 k) : k = 64 := by
  obtain ⟨h1, h2, h3⟩ := h
  rcases Nat.lt_or_ge k 64 with c | c
  · have := h3 c
    simp at this
  · omega

theorem isLow_lt {x k : Nat} (h : IsLow x k) (h0 : 0 < x) (hx : x < 18446744073709551616) : k < 64 := by
  obtain ⟨h1, h2, h3⟩ := h
  rcases Nat.lt_or_ge k 64 with c | c
  · exact c
  · exfalso
    have e : x = 0 := by
      apply Nat.eq_of_testBit_eq
      intro i
      rw [Nat.zero_testBit]
      rcases Nat.lt_or_ge i 64 with ci | ci
      · exact h2 i (by omega)
      · exact Nat.testBit_lt_two_pow (Nat.lt_of_lt_of_le (show x < 2 ^ 64 by omega) (Nat.pow_le_pow_right (by omega) ci))
    omega

theorem and_compl (f u : Nat) (hu : u < 2 ^ f) : u &&& (2 ^ f - 1 - u) = 0 := by
  apply Nat.eq_of_testBit_eq
  intro i
  have e : 2 ^ f - 1 - u = 2 ^ f - (u + 1) := by omega
  rw [Nat.testBit_and, e, Nat.testBit_two_pow_sub_succ hu, Nat.zero_testBit]
  cases u.testBit i <;> simp

theorem and_odd_odd (u v : Nat) : (2 * u + 1) &&& (2 * v + 1) = 2 * (u &&& v) + 1 := by
  apply Nat.eq_of_testBit_eq
  intro i
  cases i with
  | zero => simp
  | succ i =>
    have h1 : (2 * u + 1) / 2 = u := by omega
    have h2 : (2 * v + 1) / 2 = v := by omega
    have h3 : (2 * (u &&& v) + 1) / 2 = u &&& v := by omega
    rw [Nat.testBit_and, Nat.testBit_add_one, Nat.testBit_add_one, Nat.testBit_add_one, h1, h2, h3, Nat.testBit_and]

theorem and_even_even (u v : Nat) : (2 * u) &&& (2 * v) = 2 * (u &&& v) := by
  apply Nat.eq_of_testBit_eq
  intro i
  cases i with
  | zero => simp
  | succ i =>
    have h1 : 2 * u / 2 = u := by omega
    have h2 : 2 * v / 2 = v := by omega
    have h3 : 2 * (u &&& v) / 2 = u &&& v := by omega
    rw [Nat.testBit_and, Nat.testBit_add_one, Nat.testBit_add_one, Nat.testBit_add_one, h1, h2, h3, Nat.testBit_and]

/-- The lowest one, isolated by the two's complement. -/
theorem and_neg (f x k : Nat) (h0 : 0 < x) (hx : x < 2 ^ f) (hz : ∀ j, j < k → x.testBit j = false) (ho : x.testBit k = true) : x &&& (2 ^ f - x) = 2 ^ k := by
  induction f generalizing x k with
  | zero => simp at hx; omega
  | succ f ih =>
    have hp : 2 ^ (f + 1) = 2 * 2 ^ f := by rw [Nat.pow_succ]; omega
    rw [hp] at hx ⊢
    rcases Nat.mod_two_eq_zero_or_one x with h | h
    · obtain ⟨u, rfl⟩ : ∃ u, x = 2 * u := ⟨x / 2, by omega⟩
      have hu : 2 * u / 2 = u := by omega
      cases k with
      | zero => simp at ho
      | succ k =>
        have e : 2 * 2 ^ f - 2 * u = 2 * (2 ^ f - u) := by omega
        rw [e, and_even_even, ih u k (by omega) (by omega) (fun j hj => by have := hz (j + 1) (by omega); rwa [Nat.testBit_add_one, hu] at this) (by rwa [Nat.testBit_add_one, hu] at ho), Nat.pow_succ]
        omega
    · obtain ⟨u, rfl⟩ : ∃ u, x = 2 * u + 1 := ⟨x / 2, by omega⟩
      cases k with
      | zero =>
        have e : 2 * 2 ^ f - (2 * u + 1) = 2 * (2 ^ f - 1 - u) + 1 := by omega
        rw [e, and_odd_odd, and_compl f u (by omega)]
      | succ k =>
        have := hz 0 (by omega)
        simp at this

theorem isLow_and_neg {x k : Nat} (h : IsLow x k) (h0 : 0 < x) (hx : x < 18446744073709551616) : x &&& (18446744073709551616 - x) = 2 ^ k := by
  have hk := isLow_lt h h0 hx
  have := and_neg 64 x k h0 (by omega) h.2.1 (h.2.2 hk)
  simpa using this

theorem shl_bit (x p j : Nat) : (x * 2 ^ p % 18446744073709551616).testBit j = (decide (j < 64) && (decide (p ≤ j) && x.testBit (j - p))) := by
  have e : (18446744073709551616 : Nat) = 2 ^ 64 := by decide
  rw [e, Nat.testBit_mod_two_pow, ← Nat.shiftLeft_eq, Nat.testBit_shiftLeft]

theorem isLow_shl {x k p : Nat} (h : IsLow x k) : IsLow (x * 2 ^ p % 18446744073709551616) (min (k + p) 64) := by
  obtain ⟨h1, h2, h3⟩ := h
  refine ⟨by omega, fun j hj => ?_, fun hk => ?_⟩
  · rw [shl_bit]
    by_cases c : p ≤ j
    · rw [h2 (j - p) (by omega)]; simp
    · simp [c]
  · rw [shl_bit]
    have e : min (k + p) 64 = k + p := by omega
    rw [e] at hk ⊢
    have e2 : k + p - p = k := by omega
    rw [e2, h3 (by omega)]
    simp
    omega

theorem isLow_odd (r : Nat) : IsLow (r ||| 1) 0 := ⟨by omega, fun j hj => by omega, fun _ => by simp⟩

end Go.Proofs.Ymbrcw.Low
