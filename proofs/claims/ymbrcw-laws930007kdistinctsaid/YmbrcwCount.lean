/-
  COUNTING: the number of members below a bound; the walks of Count and Rank.
-/
import Derived.Test.YmbrcwSets
import Derived.Test.YmbrcwOnes
namespace Go.Proofs.Ymbrcw
open Go.RowKit Go.Proofs.Ymbrcw.Pop
set_option linter.unusedVariables false

/-! ### Plain -/
/-- The ones of a word. -/
def pop (x : Nat) : Nat := pc 64 x
theorem pop_le (x : Nat) : pop x ≤ 64 := pc_le 64 x

theorem pcTo_bit (x i : Nat) : pcTo x (i + 1) = pcTo x i + (x.testBit i).toNat := by
  rw [Nat.toNat_testBit]; rfl

theorem pcTo_congr {x y : Nat} (r : Nat) (h : ∀ j, j < r → x.testBit j = y.testBit j) : pcTo x r = pcTo y r := by
  induction r with
  | zero => rfl
  | succ r ih => rw [pcTo_bit, pcTo_bit, ih fun j hj => h j (by omega), h r (by omega)]

theorem pcTo_over {x : Nat} (r s : Nat) (h : ∀ j, r ≤ j → x.testBit j = false) : pcTo x (r + s) = pcTo x r := by
  induction s with
  | zero => rfl
  | succ s ih =>
    show pcTo x (r + s + 1) = _
    rw [pcTo_bit, h (r + s) (by omega), ih]
    rfl

/-- The ones below place r, by a mask. -/
theorem pop_mask (x r : Nat) (hr : r ≤ 64) : pop (x &&& (2 ^ r - 1)) = pcTo x r := by
  unfold pop
  rw [pc_eq_pcTo, Nat.and_two_pow_sub_one_eq_mod]
  have e : 64 = r + (64 - r) := by omega
  rw [e, pcTo_over r _ fun j hj => by rw [Nat.testBit_mod_two_pow]; simp; omega]
  exact pcTo_congr r fun j hj => by rw [Nat.testBit_mod_two_pow]; simp [hj]

theorem pop_pcTo (x : Nat) : pop x = pcTo x 64 := pc_eq_pcTo 64 x

/-- How many members lie below i. -/
def blw (f : Nat → Nat) : Nat → Nat
  | 0 => 0
  | i + 1 => blw f i + (mem f i).toNat

theorem blw_le (f : Nat → Nat) (i : Nat) : blw f i ≤ i := by
  induction i with
  | zero => exact Nat.le_refl _
  | succ i ih =>
    have : (mem f i).toNat ≤ 1 := by cases mem f i <;> simp
    simp only [blw]
    omega

/-- The ones of the first k words. -/
def cnt (f : Nat → Nat) : Nat → Nat
  | 0 => 0
  | k + 1 => cnt f k + pop (f k)

theorem cnt_le (f : Nat → Nat) (k : Nat) : cnt f k ≤ 64 * k := by
  induction k with
  | zero => exact Nat.le_refl _
  | succ k ih => have := pop_le (f k); simp only [cnt]; omega

theorem blw_word (f : Nat → Nat) (k r : Nat) (hr : r ≤ 64) : blw f (64 * k + r) = blw f (64 * k) + pcTo (f k) r := by
  induction r with
  | zero => rfl
  | succ r ih =>
    show blw f (64 * k + r + 1) = _
    rw [pcTo_bit, blw, ih (by omega)]
    unfold mem
    rw [show (64 * k + r) / 64 = k by omega, show (64 * k + r) % 64 = r by omega]
    omega

theorem cnt_blw (f : Nat → Nat) (k : Nat) : cnt f k = blw f (64 * k) := by
  induction k with
  | zero => rfl
  | succ k ih =>
    rw [show 64 * (k + 1) = 64 * k + 64 by omega, blw_word f k 64 (Nat.le_refl _), cnt, ih, pop_pcTo]

theorem blw_over {f : Nat → Nat} {n : Nat} (hz : ∀ i, n ≤ i → f i = 0) (s : Nat) : blw f (64 * n + s) = blw f (64 * n) := by
  induction s with
  | zero => rfl
  | succ s ih =>
    show blw f (64 * n + s + 1) = _
    rw [blw, ih]
    unfold mem
    rw [hz _ (by omega)]
    simp

/-- The whole count is what lies below anything that is beyond the words. -/
theorem cnt_all {f : Nat → Nat} {n i : Nat} (hz : ∀ i, n ≤ i → f i = 0) (h : 64 * n ≤ i) : cnt f n = blw f i := by
  rw [cnt_blw]
  have := blw_over hz (i - 64 * n)
  rw [show 64 * n + (i - 64 * n) = i by omega] at this
  exact this.symm

theorem blw_set (f : Nat → Nat) (x i : Nat) : blw (setf f x) i = blw f i + (decide (x < i) && !mem f x).toNat := by
  induction i with
  | zero => simp [blw]
  | succ i ih =>
    rw [blw, ih, blw, mem_setf]
    by_cases e : i = x
    · subst e
      rw [decide_eq_false (Nat.lt_irrefl i), decide_eq_true (Nat.lt_succ_self i), decide_eq_true rfl]
      cases mem f i <;> simp
    · rw [decide_eq_false e]
      have e2 : decide (x < i + 1) = decide (x < i) := by
        rw [Bool.eq_iff_iff, decide_eq_true_iff, decide_eq_true_iff]; omega
      rw [e2, Bool.or_false]
      omega

/-! ### Count -/
theorem ones_eq {x : Nat} (hx : x < 18446744073709551616) {r : Nat} (h : pop x = r) (w : World) :
    Calls Ycwm.prog 28 #[.int .u64 x] w fun e w' => e = .returned (.int .i64 r) ∧ w' = w := h ▸ Ones.onesCount_any x hx w

set_option maxRecDepth 100000 in
set_option maxHeartbeats 1000000 in
theorem count_any (p : Nat) (a : Option Addr) (n cap : Nat) (f : Nat → Nat) (w : World) (hp : w.cell? ⟨p, 0, none⟩ = some (.slice a n cap)) (hr : Reads .u64 w a n f) (hf : Fit64 f) (hn : n ≤ 1048576) :
    Calls Ycwm.prog 21 #[.pointer (some ⟨p, 0, none⟩)] w fun e w' => e = .returned (.int .i64 (cnt f n)) ∧ w' = w := by
  have HR : Hid (Reads .u64 w a n f) := hr
  have HF : Hid (Fit64 f) := hf
  clear hr hf
  go_enter Ycwm.func21, Ycwm.ntmps21
  go_wp2_with fail
  go_loop [3, 11] (fun c t => ∃ k : Nat, k ≤ n ∧ t = .int .i64 k ∧ c = .int .i64 (cnt f k)) (fun _ t => n - (intOf t).toNat)
  case atStart => exact ⟨0, by omega, rfl, rfl⟩
  case round =>
    obtain ⟨k, hk, rfl, rfl⟩ := hrel
    have hcl := cnt_le f k
    by_cases hlt : k < n
    · obtain ⟨b, off, rfl, hc⟩ := HR.out k hlt
      have HS : Hid (cnt f (k + 1) = cnt f k + pop (f k)) := rfl
      have hpl := pop_le (f k)
      obtain ⟨r, hr⟩ : ∃ r, pop (f k) = r := ⟨_, rfl⟩
      have CO : Hid (∀ w, _) := ones_eq (HF.out k) hr
      rw [hr] at HS hpl
      clear hr
      generalize cnt f k = c at *
      go_wp2_with fail
      refine Calls.mono (CO.out _) ?_
      rintro e w5 ⟨rfl, rfl⟩
      go_wp2_with fail
      go_round
      case rel => exact ⟨k + 1, by omega, by go_num, by rw [HS.out]; go_num⟩
      case measure => simp [intOf]; omega
    · obtain rfl : k = n := by omega
      go_wp2_with fail
      go_ret
      exact ⟨rfl, rfl⟩

theorem count_bts {p base : Nat} {v : Value} {n : Nat} {f : Nat → Nat} {w : World} (hb : Bts w base p v n f) (hn : n ≤ 1048576) {r : Nat} (h : cnt f n = r) :
    Calls Ycwm.prog 21 #[.pointer (some ⟨p, 0, none⟩)] w fun e w' => e = .returned (.int .i64 r) ∧ w' = w := by
  have hc := hb.cell
  have hf := hb.fit
  obtain ⟨a, cap, rfl, hr, h1, h2, _⟩ := hb.slice
  exact h ▸ count_any p a n cap f w hc hr hf hn

end Go.Proofs.Ymbrcw
