/-
  THE WALK OF trim: the prefix without the zero words at the end; the same memory.
-/
import Derived.Test.YmbrcuBase
import Derived.Handy
namespace Go.Proofs.Ymbrcu
open Go.RowKit

theorem tl_step0 (f : Nat → Nat) (k : Nat) (h0 : 0 < k) (h : f (k - 1) = 0) : tl f (k - 1) = tl f k := by
  cases k with
  | zero => omega
  | succ k => simp only [Nat.add_sub_cancel] at h ⊢; simp [tl, h]
theorem tl_step1 (f : Nat → Nat) (k : Nat) (h0 : 0 < k) (h : f (k - 1) ≠ 0) : tl f k = k := by
  cases k with
  | zero => omega
  | succ k => simp only [Nat.add_sub_cancel] at h; simp [tl, h]

theorem ret_slice {a : Option Addr} {n m c : Nat} (h : n = m) : Ending.returned (.slice a n c) = .returned (.slice a m c) := by rw [h]

set_option maxHeartbeats 400000 in
theorem trim_any (a : Option Addr) (n cap : Nat) (f : Nat → Nat) (w : World) (hr : Reads .u64 w a n f) (hn : n ≤ cap) (hm : cap ≤ maxLen) (hz : a = none → cap = 0) :
    Calls Ycum.prog 33 #[.slice a n cap] w fun e w' => e = .returned (.slice a (tl f n) cap) ∧ w' = w := by
  unfold maxLen at hm
  rcases Nat.eq_zero_or_pos n with h0 | h0
  · subst h0
    have e0 : tl f 0 = 0 := rfl
    clear hr
    cases a with
    | none =>
      obtain rfl := hz rfl
      go_enter Ycum.func33, Ycum.ntmps33
      go_wp2
      go_rounds 1
      go_ret
      exact ⟨rfl, rfl⟩
    | some x =>
      clear hz
      go_enter Ycum.func33, Ycum.ntmps33
      go_wp2
      go_rounds 1
      go_ret
      exact ⟨rfl, rfl⟩
  · obtain ⟨b, off, rfl, hc⟩ := hr.at h0
    clear hr hz
    have HC : Hid (∀ i, i < n → w.cell? ⟨b, off + i, none⟩ = some (.int .u64 (f i))) := hc
    clear hc
    go_enter Ycum.func33, Ycum.ntmps33
    go_wp2
    go_loop [3] (fun t => ∃ k : Nat, k ≤ n ∧ tl f k = tl f n ∧ t = .int .i64 k) (fun t => (intOf t).toNat)
    case atStart => exact ⟨n, Nat.le_refl _, rfl, rfl⟩
    case round =>
      obtain ⟨k, hk, ht, rfl⟩ := hrel
      have HT : Hid (tl f k = tl f n) := ht
      clear ht
      rcases Nat.eq_zero_or_pos k with hk0 | hk0
      · subst hk0
        go_wp2
        go_ret
        exact ⟨ret_slice HT.out, rfl⟩
      · have hcell := HC.out (k - 1) (by omega)
        have S0 : Hid (f (k - 1) = 0 → tl f (k - 1) = tl f k) := tl_step0 f k hk0
        have S1 : Hid (f (k - 1) ≠ 0 → tl f k = k) := tl_step1 f k hk0
        generalize f (k - 1) = y at *
        rcases Nat.eq_zero_or_pos y with hy | hy
        · subst hy
          go_wp2
          go_round
          case rel => exact ⟨k - 1, by omega, (S0.out rfl).trans HT.out, by go_num⟩
          case measure => simp [intOf]; omega
        · have h1 : ((y : Int) == 0) = false := beq_eq_false_iff_ne.2 (by omega)
          go_wp2
          go_ret
          exact ⟨ret_slice (by rw [← HT.out, S1.out (by omega)]), rfl⟩
end Go.Proofs.Ymbrcu
