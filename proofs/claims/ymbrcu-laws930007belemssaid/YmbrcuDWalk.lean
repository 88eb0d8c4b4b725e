/-
  THE WALKS OF dwalk AND LawS930007DWalk.
-/
import Derived.Test.YmbrcuSets
import Derived.Test.YmbrcuCopyU
namespace Go.Proofs.Ymbrcu.DLaws
open Go.RowKit Go.Proofs.Ymbrcu
set_option linter.unusedVariables false

theorem half_pow (x r : Nat) : x / 2 ^ r / 2 = x / 2 ^ (r + 1) := by
  rw [Nat.div_div_eq_div_mul, Nat.pow_succ]

theorem memI_at (f : Nat → Nat) (k r : Nat) (hr : r < 64) (i : Int) (h : (64 : Int) * k + r = i) : memI f i = ((((f k / 2 ^ r : Nat) : Int) % 2) == 1) := by
  subst h
  have e : ((64 : Int) * k + r) = ((64 * k + r : Nat) : Int) := by omega
  rw [e, memI_nat]
  unfold mem
  rw [show (64 * k + r) / 64 = k by omega, show (64 * k + r) % 64 = r by omega, Nat.testBit_eq_decide_div_mod_eq, Bool.eq_iff_iff, decide_eq_true_iff, beq_iff_eq]
  generalize f k / 2 ^ r = y
  omega

theorem memI_none {f : Nat → Nat} {n : Nat} (hz : ∀ i, n ≤ i → f i = 0) {i : Int} (h : i < 0 ∨ (64 : Int) * n ≤ i) : memI f i = false := by
  unfold memI
  split
  · rfl
  · unfold mem
    rw [hz _ (by omega)]
    simp

set_option maxRecDepth 100000 in
set_option maxHeartbeats 2000000 in
theorem dwalk_any (a : Option Addr) (n cap : Nat) (f : Nat → Nat) (i : Int) (w : World) (hr : Reads .u64 w a n f) (hzf : ∀ j, n ≤ j → f j = 0) (hf : Fit64 f) (hn : n ≤ 1048576) :
    Calls Ycum.prog 32 #[.slice a n cap, .int .i64 i] w fun e w' => e = .returned (.bool (memI f i)) ∧ w' = w := by
  have HR : Hid (Reads .u64 w a n f) := hr
  have HF : Hid (Fit64 f) := hf
  have HZ : Hid (∀ j, n ≤ j → f j = 0) := hzf
  clear hr hf hzf
  go_enter Ycum.func32, Ycum.ntmps32
  go_wp2_with fail
  go_loop [5, 11] (fun p t => ∃ k : Nat, k ≤ n ∧ (i < 0 ∨ (64 : Int) * k ≤ i) ∧ p = .int .i64 ((64 : Int) * k) ∧ t = .int .i64 k) (fun _ t => n - (intOf t).toNat)
  case atStart => exact ⟨0, by omega, by omega, rfl, rfl⟩
  case round =>
    obtain ⟨k, hk, hi, rfl, rfl⟩ := hrel
    by_cases hlt : k < n
    · obtain ⟨b, off, rfl, hc⟩ := HR.out k hlt
      have hfk := HF.out k
      go_wp2_with fail
      go_loop [5, 7, 8] (fun p x t => ∃ r : Nat, r ≤ 64 ∧ (i < 0 ∨ (64 : Int) * k + r ≤ i) ∧ p = .int .i64 ((64 : Int) * k + r) ∧ x = .int .u64 ((f k / 2 ^ r : Nat) : Int) ∧ t = .int .i64 r) (fun _ _ t => 64 - (intOf t).toNat)
      case atStart => exact ⟨0, by omega, by omega, by go_num, by simp, rfl⟩
      case round =>
        obtain ⟨r, hr1, hi2, rfl, rfl, rfl⟩ := hrel
        by_cases hr2 : r < 64
        · have HH : Hid (f k / 2 ^ r / 2 = f k / 2 ^ (r + 1)) := half_pow _ _
          have HM : Hid ((64 : Int) * k + r = i → memI f i = ((((f k / 2 ^ r : Nat) : Int) % 2) == 1)) := memI_at f k r hr2 i
          have hle : f k / 2 ^ r < 18446744073709551616 := Nat.lt_of_le_of_lt (Nat.div_le_self _ _) hfk
          generalize f k / 2 ^ r = y at *
          by_cases hp : (64 : Int) * k + r = i
          · have e1 : ((64 : Int) * k + r == i) = true := beq_iff_eq.2 hp
            have HM2 : Hid (memI f i = _) := HM.out hp
            clear hp HM
            go_wp2_with fail
            go_ret
            exact ⟨ret_bool HM2.out.symm, rfl⟩
          · have e1 : ((64 : Int) * k + r == i) = false := beq_eq_false_iff_ne.2 hp
            have hi3 : i < 0 ∨ (64 : Int) * k + r + 1 ≤ i := by omega
            go_wp2_with fail
            go_round
            case rel => exact ⟨r + 1, by omega, by omega, by go_num, by rw [← HH.out]; go_num, by go_num⟩
            case measure => simp [intOf]; omega
        · have hr3 : r = 64 := by omega
          subst hr3
          go_wp2_with fail
          go_round
          case rel => exact ⟨k + 1, by omega, by omega, by go_num, by go_num⟩
          case measure => simp [intOf]; omega
    · obtain rfl : k = n := by omega
      have HM : Hid (memI f i = false) := memI_none HZ.out hi
      go_wp2_with fail
      go_ret
      exact ⟨ret_bool HM.out.symm, rfl⟩

theorem dwalk_eq {a : Option Addr} {n cap : Nat} {f : Nat → Nat} {i : Int} {w : World} (hr : Reads .u64 w a n f) (hzf : ∀ j, n ≤ j → f j = 0) (hf : Fit64 f) (hn : n ≤ 1048576) {r : Bool} (h : memI f i = r) :
    Calls Ycum.prog 32 #[.slice a n cap, .int .i64 i] w fun e w' => e = .returned (.bool r) ∧ w' = w := h ▸ dwalk_any a n cap f i w hr hzf hf hn

set_option maxRecDepth 100000 in
set_option maxHeartbeats 4000000 in
theorem dwalk_law (a : Option Addr) (n cap : Nat) (f : Nat → Nat) (i : Int) (k j : Nat) (w : World) (hr : Reads .u64 w a n f) (hf : Fit64 f) (hzf : ∀ i, n ≤ i → f i = 0) (hn : n ≤ cap) (hm : cap ≤ maxLen)
    (h1 : -9223372036854775808 ≤ i) (h2 : i ≤ 9223372036854775807) (h3 : k < 256) (h4 : j < 256) :
    Calls Ycum.prog 12 #[.slice a n cap, .int .i64 i, .int .u8 k, .int .u8 j] w fun e w' => e = .returned (.bool true) ∧ Below w.heap.size w w' := by
  unfold maxLen at hm
  by_cases hbig : 1024 < n
  · go_enter Ycum.func12, Ycum.ntmps12
    go_wp2_with fail
    go_ret
    exact ⟨rfl, Below.refl _ _⟩
  have CC : Hid _ := dcopy_any a n cap f w hr (by omega) hn
  have HF : Hid (Fit64 f) := hf
  have HZ : Hid (∀ i, n ≤ i → f i = 0) := hzf
  have HR : Hid (Reads .u64 w a n f) := hr
  clear hr hf hzf
  go_enter Ycum.func12, Ycum.ntmps12
  go_wp2_with fail
  refine Calls.mono CC.out ?_
  rintro e w2 ⟨v, rfl, o2, b2, z2⟩
  obtain ⟨a2, cap2, rfl, _⟩ := o2.slice
  have B1 : Hid (Bts _ _ _ _ _ _) := bts_box o2 z2 HZ.out HF.out
  have W1 : Hid (Below _ _ _) := b2.alloc z2 (.cells #[.slice a2 n cap2] 27)
  clear o2 b2
  go_wp2_with fail
  generalize w2.alloc (.cells #[.slice a2 n cap2] 27) = W at *
  generalize w2.heap.size = p at *
  have R0 : Hid (Reads .u64 W a n f) := HR.out.below W1.out
  have R1 : Hid (Reads .u64 W a2 n f) := by
    obtain ⟨_, _, e, hr, _⟩ := B1.out.slice
    cases e
    exact hr
  have hcell := B1.out.cell
  have hk0 : 0 ≤ (k : Int) % ((n : Int) + 1) := Int.emod_nonneg _ (by omega)
  have hk1 : (k : Int) % ((n : Int) + 1) < (n : Int) + 1 := Int.emod_lt_of_pos _ (by omega)
  cases hb1 : memI f i
  all_goals
    have M1 : Hid (memI f i = _) := hb1
    clear hb1
    refine Calls.mono (has_eq B1.out h2 M1.out) ?_
    rintro e w4 ⟨rfl, rfl⟩
    go_wp2_with fail
    refine Calls.mono (dwalk_eq R0.out HZ.out HF.out (by omega) M1.out) ?_
    rintro e w5 ⟨rfl, rfl⟩
    cases hb2 : memI f ((k : Int) % ((n : Int) + 1) * 64 + (j : Int) % 64)
    all_goals
      have M2 : Hid (memI f _ = _) := hb2
      clear hb2
      go_wp2_with fail
      refine Calls.mono (has_eq B1.out (by omega) M2.out) ?_
      rintro e w6 ⟨rfl, rfl⟩
      go_wp2_with fail
      refine Calls.mono (dwalk_eq R0.out HZ.out HF.out (by omega) M2.out) ?_
      rintro e w7 ⟨rfl, rfl⟩
      go_wp2_with fail
      go_loop [55] (fun t => ∃ k : Nat, k ≤ n ∧ t = .int .i64 k) (fun t => n - (intOf t).toNat)
      case atStart => exact ⟨0, by omega, rfl⟩
      case round =>
        obtain ⟨q, hq, rfl⟩ := hrel
        by_cases hlt : q < n
        · obtain ⟨bb, off, rfl, c1⟩ := R0.out q hlt
          obtain ⟨bb', off', rfl, c2⟩ := R1.out q hlt
          go_wp2_with fail
          go_round
          case rel => exact ⟨q + 1, by omega, by go_num⟩
          case measure => simp [intOf]; omega
        · obtain rfl : q = n := by omega
          go_wp2_with fail
          go_ret
          exact ⟨rfl, W1.out⟩
end Go.Proofs.Ymbrcu.DLaws
