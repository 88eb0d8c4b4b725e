/-
  THE WALK OF Rank: how many members lie below i.
-/
import Derived.Test.YmbrcwCount
namespace Go.Proofs.Ymbrcw
open Go.RowKit Go.Proofs.Ymbrcw.Pop
set_option linter.unusedVariables false

/-- The bits of x below place r. -/
def msk (x r : Nat) : Nat := x &&& (2 ^ r - 1)
theorem msk_lt (x r : Nat) (hx : x < 18446744073709551616) : msk x r < 18446744073709551616 := Nat.lt_of_le_of_lt Nat.and_le_left hx
theorem pop_msk (x r : Nat) (hr : r ≤ 64) : pop (msk x r) = pcTo x r := pop_mask x r hr
theorem and_mask (x r : Nat) (hx : x < 18446744073709551616) (hr : r < 64) : bits .and .u64 (x : Int) ((2 : Int) ^ r - 1) = (msk x r : Int) := by
  have h1 := pow_lt64 r hr
  have h2 : 0 < 2 ^ r := Nat.two_pow_pos r
  have e : ((2 : Int) ^ r - 1) = ((2 ^ r - 1 : Nat) : Int) := by
    rw [pow_cast]
    generalize 2 ^ r = c at *
    omega
  rw [e]
  exact u64_and_nat x _ hx (by omega)

theorem pow_ge1 (s : Nat) : (1 : Int) ≤ 2 ^ s := by
  have := Nat.two_pow_pos s
  rw [pow_cast]
  generalize 2 ^ s = c at *
  omega
theorem pow_le64 (s : Nat) (h : s < 64) : (2 : Int) ^ s ≤ 18446744073709551615 := by
  have := pow_lt64 s h
  rw [pow_cast]
  generalize 2 ^ s = c at *
  omega

/-- Rank's answer: how many members lie below i. -/
def rk (f : Nat → Nat) (i : Int) : Nat := blw f i.toNat

set_option maxRecDepth 100000 in
set_option maxHeartbeats 2000000 in
theorem rank_any (p : Nat) (a : Option Addr) (n cap : Nat) (f : Nat → Nat) (i : Int) (w : World) (hp : w.cell? ⟨p, 0, none⟩ = some (.slice a n cap)) (hr : Reads .u64 w a n f) (hzf : ∀ j, n ≤ j → f j = 0) (hf : Fit64 f) (hn : n ≤ 1048576) (hi : i ≤ 9223372036854775807) :
    Calls Ycwm.prog 16 #[.pointer (some ⟨p, 0, none⟩), .int .i64 i] w fun e w' => e = .returned (.int .i64 (rk f i)) ∧ w' = w := by
  by_cases h0 : i ≤ 0
  · have HK : Hid (rk f i = 0) := by
      unfold Hid rk
      rw [show i.toNat = 0 by omega]
      rfl
    clear hr hf hzf
    go_enter Ycwm.func16, Ycwm.ntmps16
    go_wp2_with fail
    go_ret
    exact ⟨ret_int (by rw [HK.out]; rfl), rfl⟩
  obtain ⟨j, hj⟩ : ∃ j, i.toNat = j := ⟨_, rfl⟩
  have b0 : decide (i ≤ 0) = false := decide_eq_false h0
  have hi0 : 0 < i := by omega
  by_cases hjn : n ≤ j / 64
  · have HK : Hid (cnt f n = rk f i) := by
      unfold Hid rk
      rw [hj]
      exact cnt_all hzf (by omega)
    have CC : Hid _ := count_any p a n cap f w hp hr hf hn
    have b1 : decide ((n : Int) ≤ i / 64) = true := decide_eq_true (by omega)
    clear hr hf hzf hj hjn h0
    go_enter Ycwm.func16, Ycwm.ntmps16
    go_wp2_with fail
    refine Calls.mono CC.out ?_
    rintro e w5 ⟨rfl, rfl⟩
    go_wp2_with fail
    go_ret
    exact ⟨ret_int (by rw [HK.out]), rfl⟩
  · have HR : Hid (Reads .u64 w a n f) := hr
    have HF : Hid (Fit64 f) := hf
    clear hr hf hzf
    obtain ⟨m, hm⟩ : ∃ m, j / 64 = m := ⟨_, rfl⟩
    obtain ⟨s, hs⟩ : ∃ s, j % 64 = s := ⟨_, rfl⟩
    have hs64 : s < 64 := by omega
    have hmn : m < n := by omega
    have hd : i / 64 = (m : Int) := by omega
    have hd2 : i % 64 = (s : Int) := by omega
    have HK : Hid (rk f i = cnt f m + pcTo (f m) s) := by
      unfold Hid rk
      rw [hj, cnt_blw, ← blw_word f m s (by omega)]
      congr 1
      omega
    have b1 : decide ((n : Int) ≤ i / 64) = false := decide_eq_false (by omega)
    have HD : Hid (i / 64 = (m : Int)) := hd
    have HD2 : Hid (i % 64 = (s : Int)) := hd2
    clear hm hs hjn h0 hj hd hd2
    go_enter Ycwm.func16, Ycwm.ntmps16
    go_wp2_with fail
    simp only [HD.out]
    clear HD b1
    go_loop [6, 7] (fun c t => ∃ k : Nat, k ≤ m ∧ t = .int .i64 k ∧ c = .int .i64 (cnt f k)) (fun _ t => m - (intOf t).toNat)
    case atStart => exact ⟨0, by omega, rfl, rfl⟩
    case round =>
      obtain ⟨k, hk, rfl, rfl⟩ := hrel
      have hcl := cnt_le f k
      by_cases hlt : k < m
      · obtain ⟨b, off, rfl, hc⟩ := HR.out k (by omega)
        have hkn : k < n := by omega
        have HS : Hid (cnt f (k + 1) = cnt f k + pop (f k)) := rfl
        have hpl := pop_le (f k)
        obtain ⟨r, hr⟩ : ∃ r, pop (f k) = r := ⟨_, rfl⟩
        have CO : Hid (∀ w, _) := ones_eq (HF.out k) hr
        rw [hr] at HS hpl
        clear hr
        generalize cnt f k = c at *
        go_wp2_with fail
        refine Calls.mono (CO.out _) ?_
        rintro e w5 ⟨rfl, rfl⟩
        go_wp2_with fail
        go_round
        case rel => exact ⟨k + 1, by omega, by go_num, by rw [HS.out]; go_num⟩
        case measure => simp [intOf]; omega
      · have hkj : k = m := by omega
        subst hkj
        obtain ⟨b, off, rfl, hc⟩ := HR.out k hmn
        have hpl : pcTo (f k) s ≤ 64 := by have := pcTo_le (f k) s; omega
        have hand := and_mask (f k) s (HF.out _) hs64
        have CO : Hid (∀ w, _) := ones_eq (x := msk (f k) s) (msk_lt _ _ (HF.out _)) (pop_msk (f k) s (by omega))
        have hwp := wrap_pow' s hs64
        have hp1 := pow_ge1 s
        have hp2 := pow_le64 s hs64
        have hd2 := HD2.out
        generalize pcTo (f k) s = t at *
        generalize cnt f k = c at *
        go_wp2_with fail
        refine Calls.mono (CO.out _) ?_
        rintro e w5 ⟨rfl, rfl⟩
        go_wp2_with fail
        go_ret
        exact ⟨ret_int (by rw [HK.out]; omega), rfl⟩

theorem rank_bts {p base : Nat} {v : Value} {n : Nat} {f : Nat → Nat} {i : Int} {w : World} (hb : Bts w base p v n f) (hn : n ≤ 1048576) (hi : i ≤ 9223372036854775807) {r : Nat} (h : rk f i = r) :
    Calls Ycwm.prog 16 #[.pointer (some ⟨p, 0, none⟩), .int .i64 i] w fun e w' => e = .returned (.int .i64 r) ∧ w' = w := by
  have hc := hb.cell
  have hf := hb.fit
  have hz := hb.zero
  obtain ⟨a, cap, rfl, hr, h1, h2, _⟩ := hb.slice
  exact h ▸ rank_any p a n cap f i w hc hr hz hf hn hi

end Go.Proofs.Ymbrcw
