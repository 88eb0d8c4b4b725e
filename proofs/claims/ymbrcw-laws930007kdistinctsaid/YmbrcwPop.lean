/-
  PLAIN: the number of ones among the first bits of a natural number; no Go in sight.
-/
namespace Go.Proofs.Ymbrcw.Pop

/-- The ones among the f lowest bits, lowest first. -/
def pc : Nat → Nat → Nat
  | 0, _ => 0
  | f + 1, x => x % 2 + pc f (x / 2)

theorem pc_zero (f : Nat) : pc f 0 = 0 := by
  induction f with
  | zero => rfl
  | succ f ih => simp [pc, ih]

theorem pc_le (f x : Nat) : pc f x ≤ f := by
  induction f generalizing x with
  | zero => simp [pc]
  | succ f ih => have := ih (x / 2); simp only [pc]; omega

theorem and_even (u v : Nat) : (2 * u) &&& (2 * v + 1) = 2 * (u &&& v) := by
  apply Nat.eq_of_testBit_eq
  intro i
  cases i with
  | zero => simp
  | succ i =>
    have h1 : 2 * u / 2 = u := by omega
    have h2 : (2 * v + 1) / 2 = v := by omega
    have h3 : 2 * (u &&& v) / 2 = u &&& v := by omega
    rw [Nat.testBit_and, Nat.testBit_add_one, Nat.testBit_add_one, Nat.testBit_add_one, h1, h2, h3, Nat.testBit_and]

theorem and_odd (u : Nat) : (2 * u + 1) &&& (2 * u) = 2 * u := by
  apply Nat.eq_of_testBit_eq
  intro i
  cases i with
  | zero => simp
  | succ i =>
    have h1 : 2 * u / 2 = u := by omega
    have h2 : (2 * u + 1) / 2 = u := by omega
    rw [Nat.testBit_and, Nat.testBit_add_one, Nat.testBit_add_one, h1, h2, Bool.and_self]

/-- Dropping the lowest one lowers the count by one. -/
theorem pc_drop (f x : Nat) (h0 : 0 < x) (hx : x < 2 ^ f) : pc f (x &&& (x - 1)) + 1 = pc f x := by
  induction f generalizing x with
  | zero => simp at hx; omega
  | succ f ih =>
    rcases Nat.mod_two_eq_zero_or_one x with h | h
    · obtain ⟨u, rfl⟩ : ∃ u, x = 2 * u := ⟨x / 2, by omega⟩
      have e : 2 * u - 1 = 2 * (u - 1) + 1 := by omega
      rw [e, and_even]
      have h1 : 2 * (u &&& (u - 1)) % 2 = 0 := by omega
      have h2 : 2 * (u &&& (u - 1)) / 2 = u &&& (u - 1) := by omega
      have h3 : 2 * u / 2 = u := by omega
      simp only [pc, h, h1, h2, h3]
      have := ih u (by omega) (by rw [Nat.pow_succ] at hx; omega)
      omega
    · obtain ⟨u, rfl⟩ : ∃ u, x = 2 * u + 1 := ⟨x / 2, by omega⟩
      have e : 2 * u + 1 - 1 = 2 * u := by omega
      rw [e, and_odd]
      have h1 : 2 * u % 2 = 0 := by omega
      have h2 : 2 * u / 2 = u := by omega
      have h3 : (2 * u + 1) / 2 = u := by omega
      simp only [pc, h, h1, h2, h3]
      omega

theorem and_pred_lt (x : Nat) (h0 : 0 < x) : x &&& (x - 1) < x :=
  Nat.lt_of_le_of_lt Nat.and_le_right (by omega)

/-- The ones of the complement. -/
theorem pc_not (f x : Nat) (hx : x < 2 ^ f) : pc f x + pc f (2 ^ f - 1 - x) = f := by
  induction f generalizing x with
  | zero => simp [pc]
  | succ f ih =>
    have hp : 2 ^ (f + 1) = 2 * 2 ^ f := by rw [Nat.pow_succ]; omega
    rw [hp] at hx ⊢
    have h1 : (2 * 2 ^ f - 1 - x) / 2 = 2 ^ f - 1 - x / 2 := by omega
    have h2 : (2 * 2 ^ f - 1 - x) % 2 = 1 - x % 2 := by omega
    have := ih (x / 2) (by omega)
    simp only [pc, h1, h2]
    omega

/-- The ones at the places below i, place by place. -/
def pcTo (x : Nat) : Nat → Nat
  | 0 => 0
  | i + 1 => pcTo x i + x / 2 ^ i % 2

theorem pcTo_le (x i : Nat) : pcTo x i ≤ i := by
  induction i with
  | zero => simp [pcTo]
  | succ i ih => simp only [pcTo]; omega

theorem pcTo_shift (x i : Nat) : pcTo x (i + 1) = x % 2 + pcTo (x / 2) i := by
  induction i with
  | zero => simp [pcTo]
  | succ i ih =>
    have e : x / 2 ^ (i + 1) = x / 2 / 2 ^ i := by rw [Nat.div_div_eq_div_mul]; congr 1; rw [Nat.pow_succ]; omega
    rw [pcTo, ih, e, pcTo]
    omega

theorem pc_eq_pcTo (f x : Nat) : pc f x = pcTo x f := by
  induction f generalizing x with
  | zero => rfl
  | succ f ih => rw [pcTo_shift, pc, ih]

end Go.Proofs.Ymbrcw.Pop
