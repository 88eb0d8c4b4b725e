/-
  THE WALKS OF LawS930007FComplement AND LawS930007FExact.
-/
import Derived.Test.YmbrcvOnes
import Derived.OpenShut
namespace Go.Proofs.Ymbrcv.FLaws
open Go.RowKit Go.Proofs.Ymbrcv.Pop Go.Proofs.Ymbrcv.Ones

theorem u64_not (x : Nat) (hx : x < 18446744073709551616) : bits .xor .u64 18446744073709551615 (x : Int) = ((18446744073709551615 - x : Nat) : Int) := by
  show IntKind.u64.wrap ((BitVec.ofInt 64 18446744073709551615 ^^^ BitVec.ofInt 64 (x : Int)).toNat : Int) = _
  have h1 : BitVec.ofInt 64 18446744073709551615 = BitVec.allOnes 64 := by decide
  rw [h1, BitVec.allOnes_xor, BitVec.toNat_not, ofInt_u64 x hx, IntKind.wrap_u64]
  omega

def not64 (x : Nat) : Nat := 18446744073709551615 - x
theorem not64_lt (x : Nat) : not64 x < 18446744073709551616 := by unfold not64; omega
theorem u64_not' (x : Nat) (hx : x < 18446744073709551616) : bits .xor .u64 IntKind.u64.max (x : Int) = (not64 x : Int) := u64_not x hx

theorem pc_not64 (x : Nat) (hx : x < 18446744073709551616) : pc 64 x + pc 64 (not64 x) = 64 := by
  unfold not64
  have := pc_not 64 x (by omega)
  simpa using this

set_option maxHeartbeats 400000 in
theorem complement (x : Nat) (hx : x < 18446744073709551616) (w : World) :
    Calls Ycvm.prog 7 #[.int .u64 x] w fun e w' => e = .returned (.bool true) ∧ Grown w w' := by
  have c1 := onesCount_any x hx
  have c2 := onesCount_any (not64 x) (not64_lt x)
  have hp := pc_not64 x hx
  have h1 := pc_le 64 x
  have h2 := pc_le 64 (not64 x)
  have hn := u64_not' x hx
  generalize not64 x = y at *
  generalize pc 64 x = a at *
  generalize pc 64 y = b at *
  have C1 : Hid (∀ w, _) := c1
  have C2 : Hid (∀ w, _) := c2
  clear c1 c2
  have hs : ((a : Int) + (b : Int) == 64) = true := beq_iff_eq.2 (by omega)
  clear hp
  go_enter Ycvm.func7, Ycvm.ntmps7
  go_wp2_with fail
  refine (C1.out _).mono ?_
  rintro e w1 ⟨rfl, rfl⟩
  go_wp2_with fail
  refine (C2.out _).mono ?_
  rintro e w2 ⟨rfl, rfl⟩
  go_wp2_with fail
  go_ret
  exact ⟨rfl, Grown.refl _⟩

/-- The walk's spelling of '(w >> i) & 1'. -/
theorem bit_at (x i : Nat) (hx : x < 18446744073709551616) : bits .and .u64 ((x : Int) / 2 ^ i) 1 = ((x / 2 ^ i % 2 : Nat) : Int) := by
  have e : ((x : Int) / 2 ^ i) = ((x / 2 ^ i : Nat) : Int) := by simp
  rw [e]
  have h := u64_and_nat (x / 2 ^ i) 1 (Nat.lt_of_le_of_lt (Nat.div_le_self _ _) hx) (by omega)
  rw [Nat.and_one_is_mod] at h
  exact h

set_option maxHeartbeats 400000 in
theorem fones_any (x : Nat) (hx : x < 18446744073709551616) (w : World) :
    Calls Ycvm.prog 19 #[.int .u64 x] w fun e w' => e = .returned (.int .i64 (pcTo x 64)) ∧ w' = w := by
  go_enter Ycvm.func19, Ycvm.ntmps19
  go_wp2
  go_loop [3, 4] (fun n i => ∃ k : Nat, k ≤ 64 ∧ i = .int .u64 k ∧ n = .int .i64 (pcTo x k)) (fun _ i => 64 - (intOf i).toNat)
  case atStart => exact ⟨0, by omega, rfl, rfl⟩
  case round =>
    obtain ⟨k, hk, rfl, rfl⟩ := hrel
    by_cases h0 : k < 64
    · have hpl := pcTo_le x k
      have hb := bit_at x k hx
      have HS : Hid (pcTo x (k + 1) = pcTo x k + x / 2 ^ k % 2) := rfl
      have hd : x / 2 ^ k % 2 < 2 := Nat.mod_lt _ (by omega)
      generalize x / 2 ^ k % 2 = d at *
      obtain rfl | rfl : d = 0 ∨ d = 1 := by omega
      all_goals
        go_wp2
        go_round
        case rel => exact ⟨k + 1, by omega, by go_num, by rw [HS.out]; go_num⟩
        case measure => simp [intOf]; omega
    · have e : k = 64 := by omega
      subst e
      go_wp2
      go_ret
      exact ⟨rfl, rfl⟩

set_option maxHeartbeats 400000 in
theorem exact_walk (x : Nat) (hx : x < 18446744073709551616) (w : World) :
    Calls Ycvm.prog 6 #[.int .u64 x] w fun e w' => e = .returned (.bool true) ∧ Grown w w' := by
  have c1 := onesCount_any x hx
  have c2 := fones_any x hx
  have hp := pc_eq_pcTo 64 x
  rw [hp] at c1
  clear hp
  have h1 := pcTo_le x 64
  generalize pcTo x 64 = a at *
  have C1 : Hid (∀ w, _) := c1
  have C2 : Hid (∀ w, _) := c2
  clear c1 c2
  go_enter Ycvm.func6, Ycvm.ntmps6
  go_wp2_with fail
  refine (C1.out _).mono ?_
  rintro e w1 ⟨rfl, rfl⟩
  go_wp2_with fail
  refine (C2.out _).mono ?_
  rintro e w2 ⟨rfl, rfl⟩
  go_wp2_with fail
  go_ret
  exact ⟨by simp, Grown.refl _⟩

theorem nat_of_u64 (a : Int) (h : (Lit.int .u64 a).wf = true) : ∃ x : Nat, a = x ∧ x < 18446744073709551616 := by
  have := bounds_u64 h
  exact ⟨a.toNat, by omega, by omega⟩
end Go.Proofs.Ymbrcv.FLaws
