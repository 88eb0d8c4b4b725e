/-
  THE WALKS OF lowBit AND OF LawS930007JExact, JBuilt, JShift.
-/
import Derived.Test.YmbrcwRows
import Derived.Test.YmbrcwLow
import Derived.WalkKit
import Derived.WalkSpells
import Derived.WalkLawsBesides
import Derived.OpenShut
namespace Go.Proofs.Ymbrcw.JLaws
open Go.RowKit Go.Proofs.Ymbrcw.Low

theorem nat_of_u64 (a : Int) (h : (Lit.int .u64 a).wf = true) : ∃ x : Nat, a = x ∧ x < 18446744073709551616 := by
  have := bounds_u64 h
  exact ⟨a.toNat, by omega, by omega⟩
theorem nat_of_u8 (a : Int) (h : (Lit.int .u8 a).wf = true) : ∃ x : Nat, a = x ∧ x < 256 := by
  have := bounds_u8 h
  exact ⟨a.toNat, by omega, by omega⟩

/-- The walk's spelling of '(w >> i) & 1'. -/
theorem bit_at (x i : Nat) (hx : x < 18446744073709551616) : bits .and .u64 ((x : Int) / 2 ^ i) 1 = ((x.testBit i).toNat : Int) := by
  have e : ((x : Int) / 2 ^ i) = ((x / 2 ^ i : Nat) : Int) := by simp
  rw [e]
  have h := u64_and_nat (x / 2 ^ i) 1 (Nat.lt_of_le_of_lt (Nat.div_le_self _ _) hx) (by omega)
  rw [Nat.and_one_is_mod, ← Nat.toNat_testBit] at h
  exact h

set_option maxHeartbeats 400000 in
theorem lowBit_any (x : Nat) (hx : x < 18446744073709551616) (w : World) :
    Calls Ycwm.prog 19 #[.int .u64 x] w fun e w' => ∃ k : Nat, e = .returned (.int .i64 k) ∧ IsLow x k ∧ w' = w := by
  go_enter Ycwm.func19, Ycwm.ntmps19
  go_wp2
  go_loop [3] (fun n => ∃ k : Nat, k ≤ 64 ∧ (∀ j, j < k → x.testBit j = false) ∧ n = .int .i64 k) (fun n => 64 - (intOf n).toNat)
  case atStart => exact ⟨0, by omega, fun j hj => by omega, rfl⟩
  case round =>
    obtain ⟨k, hk, hz, rfl⟩ := hrel
    have HZ : Hid (∀ j, j < k → x.testBit j = false) := hz
    clear hz
    by_cases h0 : k < 64
    · have hb := bit_at x k hx
      have h0' : decide ((k : Int) < 64) = true := decide_eq_true (by omega)
      cases ht : x.testBit k with
      | false =>
        rw [ht] at hb
        have HT : Hid (x.testBit k = false) := ht
        clear ht
        have hb' : bits .and .u64 ((x : Int) / 2 ^ k) 1 = 0 := hb
        clear hb
        go_wp2
        go_round
        case rel =>
          refine ⟨k + 1, by omega, fun j hj => ?_, by go_num⟩
          rcases Nat.lt_or_ge j k with c | c
          · exact HZ.out j c
          · rw [show j = k by omega]; exact HT.out
        case measure => simp [intOf]; omega
      | true =>
        rw [ht] at hb
        have HT : Hid (x.testBit k = true) := ht
        clear ht
        have hb' : bits .and .u64 ((x : Int) / 2 ^ k) 1 = 1 := hb
        clear hb
        go_wp2
        go_ret
        exact ⟨k, rfl, ⟨hk, HZ.out, fun _ => HT.out⟩, rfl⟩
    · have e : k = 64 := by omega
      subst e
      go_wp2
      go_ret
      exact ⟨64, rfl, ⟨hk, HZ.out, fun h => by omega⟩, rfl⟩

/-- A word moved up by p places. -/
def shl64 (x p : Nat) : Nat := x * 2 ^ p % 18446744073709551616
theorem shl64_lt (x p : Nat) : shl64 x p < 18446744073709551616 := Nat.mod_lt _ (by omega)
theorem shl64_eq (x p : Nat) : IntKind.u64.wrap ((x : Int) * 2 ^ p) = (shl64 x p : Int) := by
  rw [IntKind.wrap_u64, shl64, Int.natCast_emod, Int.natCast_mul, Int.natCast_pow]
  rfl
theorem or_one (r : Nat) (hr : r < 18446744073709551616) : bits .or .u64 (r : Int) 1 = ((r ||| 1 : Nat) : Int) := u64_or_nat r 1 hr (by omega)
theorem low_shl {x k p : Nat} (h : IsLow x k) : IsLow (shl64 x p) (min (k + p) 64) := isLow_shl h

/-- The walk's spelling of 'w & (^w + 1)' and of '1 << n'. -/
theorem and_neg_eq {x k : Nat} (h : IsLow x k) (h0 : 0 < x) (hx : x < 18446744073709551616) :
    (bits .and .u64 (x : Int) (IntKind.u64.wrap (bits .xor .u64 IntKind.u64.max (x : Int) + 1)) == IntKind.u64.wrap (2 ^ k)) = true := by
  have hn : bits .xor .u64 IntKind.u64.max (x : Int) = ((18446744073709551615 - x : Nat) : Int) := by
    show IntKind.u64.wrap ((BitVec.ofInt 64 18446744073709551615 ^^^ BitVec.ofInt 64 (x : Int)).toNat : Int) = _
    have h1 : BitVec.ofInt 64 18446744073709551615 = BitVec.allOnes 64 := by decide
    rw [h1, BitVec.allOnes_xor, BitVec.toNat_not, ofInt_u64 x hx, IntKind.wrap_u64]
    omega
  have hs : IntKind.u64.wrap (((18446744073709551615 - x : Nat) : Int) + 1) = ((18446744073709551616 - x : Nat) : Int) := by
    rw [IntKind.wrap_u64]; omega
  have hk := isLow_lt h h0 hx
  have hp : 2 ^ k < 18446744073709551616 := by
    have : 2 ^ k < 2 ^ 64 := Nat.pow_lt_pow_of_lt (by omega) hk
    simpa using this
  have hw : IntKind.u64.wrap (2 ^ k) = ((2 ^ k : Nat) : Int) := by
    rw [IntKind.wrap_u64]
    have e : ((2 : Int) ^ k) = ((2 ^ k : Nat) : Int) := by simp
    rw [e]; generalize 2 ^ k = c at *; omega
  rw [hn, hs, hw, u64_and_nat x _ hx (by omega), isLow_and_neg h h0 hx]
  exact beq_self_eq_true _

set_option maxHeartbeats 400000 in
theorem jexact (x : Nat) (hx : x < 18446744073709551616) (w : World) :
    Calls Ycwm.prog 6 #[.int .u64 x] w fun e w' => e = .returned (.bool true) ∧ Grown w w' := by
  have C1 : Hid (∀ w, _) := lowBit_any x hx
  by_cases h0 : 0 < x
  · have h1 : ((x : Int) == 0) = false := beq_eq_false_iff_ne.2 (by omega)
    go_enter Ycwm.func6, Ycwm.ntmps6
    go_wp2_with fail
    refine (C1.out _).mono ?_
    rintro e w1 ⟨k, rfl, hk, rfl⟩
    have hlt : k < 64 := isLow_lt hk h0 hx
    have HE : Hid (_ = true) := and_neg_eq hk h0 hx
    clear hk
    go_wp2_with fail
    go_ret
    exact ⟨congrArg (fun b => Ending.returned (.bool b)) HE.out, Grown.refl _⟩
  · obtain rfl : x = 0 := by omega
    go_enter Ycwm.func6, Ycwm.ntmps6
    go_wp2_with fail
    refine (C1.out _).mono ?_
    rintro e w1 ⟨k, rfl, hk, rfl⟩
    obtain rfl := isLow_zero hk
    clear hk
    go_wp2_with fail
    go_ret
    exact ⟨rfl, Grown.refl _⟩

set_option maxHeartbeats 400000 in
theorem jbuilt (r p : Nat) (hr : r < 18446744073709551616) (hp : p < 256) (w : World) :
    Calls Ycwm.prog 7 #[.int .u64 r, .int .u8 p] w fun e w' => e = .returned (.bool true) ∧ Grown w w' := by
  have C1 : Hid (∀ w, _) := lowBit_any (shl64 (r ||| 1) (p % 65)) (shl64_lt _ _)
  have HS : Hid (_ = _) := shl64_eq (r ||| 1) (p % 65)
  have hO := or_one r hr
  go_enter Ycwm.func7, Ycwm.ntmps7
  go_wp2_with fail
  rw [HS.out]
  refine (C1.out _).mono ?_
  rintro e w1 ⟨k, rfl, hk, rfl⟩
  have hk2 : k = p % 65 := by
    have := isLow_unique hk (low_shl (isLow_odd r))
    omega
  subst hk2
  clear hk
  go_wp2_with fail
  go_ret
  exact ⟨by simp, Grown.refl _⟩

set_option maxHeartbeats 400000 in
theorem jshift (r p : Nat) (hr : r < 18446744073709551616) (hp : p < 256) (w : World) :
    Calls Ycwm.prog 8 #[.int .u64 r, .int .u8 p] w fun e w' => e = .returned (.bool true) ∧ Grown w w' := by
  have C1 : Hid (∀ w, _) := lowBit_any r hr
  have C2 : Hid (∀ w, _) := lowBit_any (shl64 r (p % 65)) (shl64_lt _ _)
  have HS : Hid (_ = _) := shl64_eq r (p % 65)
  go_enter Ycwm.func8, Ycwm.ntmps8
  go_wp2_with fail
  refine (C1.out _).mono ?_
  rintro e w1 ⟨k, rfl, hk, rfl⟩
  have hk1 := hk.1
  have HK : Hid (IsLow r k) := hk
  clear hk
  go_wp2_with fail
  all_goals
    rw [HS.out]
    refine (C2.out _).mono ?_
    rintro e w2 ⟨l, rfl, hl, rfl⟩
    have hl2 : l = min (k + p % 65) 64 := isLow_unique hl (low_shl HK.out)
    have hl3 : (l : Int) = if (k : Int) + p % 65 ≤ 64 then (k : Int) + p % 65 else 64 := by split <;> omega
    clear hl hl2
    go_wp2_with fail
    go_ret
    refine ⟨?_, Grown.refl _⟩
    simp
end Go.Proofs.Ymbrcw.JLaws
