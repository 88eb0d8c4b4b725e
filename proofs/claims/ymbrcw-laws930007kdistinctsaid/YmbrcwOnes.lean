/-
  THE WALK OF onesCount: it answers the number of ones.
-/
import Derived.Test.YmbrcwRows
import Derived.Test.YmbrcwPop
import Derived.WalkKit
import Derived.WalkSpells
import Derived.WalkLawsBesides
namespace Go.Proofs.Ymbrcw.Ones
open Go.RowKit Go.Proofs.Ymbrcw.Pop

/-- The walk's spelling of 'w & (w - 1)'. -/
theorem and_pred (x : Nat) (h0 : 0 < x) (hx : x < 18446744073709551616) : bits .and .u64 (x : Int) ((x : Int) - 1) = ((x &&& (x - 1) : Nat) : Int) := by
  have e : ((x : Int) - 1) = ((x - 1 : Nat) : Int) := by omega
  rw [e]
  exact u64_and_nat x (x - 1) hx (by omega)

theorem ret_int {k : IntKind} {a b : Int} (h : a = b) : Ending.returned (.int k a) = .returned (.int k b) := by rw [h]

set_option maxHeartbeats 400000 in
theorem onesCount_any (x : Nat) (hx : x < 18446744073709551616) (w : World) :
    Calls Ycwm.prog 28 #[.int .u64 x] w fun e w' => e = .returned (.int .i64 (pc 64 x)) ∧ w' = w := by
  go_enter Ycwm.func28, Ycwm.ntmps28
  go_wp2
  go_loop [0, 3] (fun t n => ∃ y k : Nat, y < 18446744073709551616 ∧ k + pc 64 y = pc 64 x ∧ k ≤ 64 ∧ t = .int .u64 y ∧ n = .int .i64 k) (fun t _ => (intOf t).toNat)
  case atStart => exact ⟨x, 0, hx, by omega, by omega, rfl, rfl⟩
  case round =>
    obtain ⟨y, k, hy, hk, hk', rfl, rfl⟩ := hrel
    by_cases h0 : 0 < y
    · have hd := pc_drop 64 y h0 (by omega)
      have hl := and_pred_lt y h0
      have hb := and_pred y h0 hy
      have hle := pc_le 64 x
      have h1 : ((y : Int) != 0) = true := by rw [bne_iff_ne]; omega
      go_wp2
      go_round
      case rel => exact ⟨y &&& (y - 1), k + 1, by omega, by omega, by omega, rfl, by go_num⟩
      case measure => simp [intOf]; omega
    · have e : y = 0 := by omega
      subst e
      go_wp2
      go_ret
      rw [pc_zero] at hk
      exact ⟨ret_int (by omega), rfl⟩

end Go.Proofs.Ymbrcw.Ones
