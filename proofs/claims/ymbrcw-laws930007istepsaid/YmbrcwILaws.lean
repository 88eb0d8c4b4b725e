/-
  THE WALKS OF LawS930007ICount AND LawS930007IStep.
-/
import Derived.Test.YmbrcwRank
import Derived.Test.YmbrcwCopyW
namespace Go.Proofs.Ymbrcw.ILaws
open Go.RowKit Go.Proofs.Ymbrcw Go.Proofs.Ymbrcw.Pop
set_option linter.unusedVariables false

/-- How many members lie below both q and i. -/
def blm (f : Nat → Nat) (q : Nat) (i : Int) : Nat := blw f (min q i.toNat)
theorem blm_zero (f : Nat → Nat) (i : Int) : blm f 0 i = 0 := by unfold blm; rw [Nat.zero_min]; rfl
theorem blm_le (f : Nat → Nat) (q : Nat) (i : Int) : blm f q i ≤ q := by
  unfold blm
  have := blw_le f (min q i.toNat)
  omega
theorem blm_in (f : Nat → Nat) (k t : Nat) (ht : t < 64) (i : Int) (h : (64 * k + t : Nat) < i) : blm f (64 * k + t + 1) i = blm f (64 * k + t) i + ((f k).testBit t).toNat := by
  unfold blm
  rw [show min (64 * k + t + 1) i.toNat = 64 * k + t + 1 by omega, show min (64 * k + t) i.toNat = 64 * k + t by omega, blw]
  unfold mem
  rw [show (64 * k + t) / 64 = k by omega, show (64 * k + t) % 64 = t by omega]
theorem blm_out (f : Nat → Nat) (q : Nat) (i : Int) (h : i ≤ (q : Int)) : blm f (q + 1) i = blm f q i := by
  unfold blm
  rw [show min (q + 1) i.toNat = min q i.toNat by omega]
theorem blm_all {f : Nat → Nat} {n : Nat} (hz : ∀ i, n ≤ i → f i = 0) (i : Int) : blm f (64 * n) i = rk f i := by
  unfold blm rk
  rcases Nat.lt_or_ge i.toNat (64 * n) with c | c
  · rw [Nat.min_eq_right (by omega)]
  · rw [Nat.min_eq_left c, ← cnt_blw]
    exact cnt_all hz c

set_option maxRecDepth 100000 in
set_option maxHeartbeats 1000000 in
theorem icount (a : Option Addr) (n cap : Nat) (f : Nat → Nat) (i : Int) (w : World) (hr : Reads .u64 w a n f) (hf : Fit64 f) (hzf : ∀ i, n ≤ i → f i = 0) (hn : n ≤ cap) (hm : cap ≤ maxLen)
    (h1 : -9223372036854775808 ≤ i) (h2 : i ≤ 9223372036854775807) :
    Calls Ycwm.prog 3 #[.slice a n cap, .int .i64 i] w fun e w' => e = .returned (.bool true) ∧ Below w.heap.size w w' := by
  unfold maxLen at hm
  by_cases hbig : 1024 < n
  · go_enter Ycwm.func3, Ycwm.ntmps3
    go_wp2_with fail
    go_ret
    exact ⟨rfl, Below.refl _ _⟩
  have hb0 : decide ((1024 : Int) < (n : Int)) = false := decide_eq_false (by omega)
  have CC : Hid _ := icopy_any a n cap f w hr (by omega) hn hzf hf
  have HF : Hid (Fit64 f) := hf
  have HZ : Hid (∀ i, n ≤ i → f i = 0) := hzf
  have HR : Hid (Reads .u64 w a n f) := hr
  clear hr hf hzf
  go_enter Ycwm.func3, Ycwm.ntmps3
  go_wp2_with fail
  refine Calls.mono CC.out ?_
  rintro e w2 ⟨p, v, rfl, b2, bel2⟩
  have B1 : Hid (Bts _ _ _ _ _ _) := b2
  have W1 : Hid (Below _ _ _) := bel2
  have R0 : Hid (Reads .u64 w2 a n f) := HR.out.below bel2
  clear b2 bel2
  go_wp2_with fail
  go_loop [6, 7] (fun c t => ∃ k : Nat, k ≤ n ∧ t = .int .i64 k ∧ c = .int .i64 (blm f (64 * k) i)) (fun _ t => n - (intOf t).toNat)
  case atStart => exact ⟨0, by omega, rfl, by rw [Nat.mul_zero, blm_zero]; rfl⟩
  case round =>
    obtain ⟨k, hk, rfl, rfl⟩ := hrel
    by_cases hlt : k < n
    · obtain ⟨b, off, rfl, hc⟩ := R0.out k hlt
      have hfk := HF.out k
      have HI : Hid (∀ t, t < 64 → ((64 * k + t : Nat) : Int) < i → blm f (64 * k + t + 1) i = blm f (64 * k + t) i + ((f k).testBit t).toNat) := fun t ht h => blm_in f k t ht i h
      have HO : Hid (∀ q : Nat, i ≤ (q : Int) → blm f (q + 1) i = blm f q i) := fun q h => blm_out f q i h
      have HL : Hid (∀ q : Nat, blm f q i ≤ q) := fun q => blm_le f q i
      generalize f k = x at *
      go_wp2_with fail
      go_loop [6, 8] (fun c t => ∃ r : Nat, r ≤ 64 ∧ t = .int .i64 r ∧ c = .int .i64 (blm f (64 * k + r) i)) (fun _ t => 64 - (intOf t).toNat)
      case atStart => exact ⟨0, by omega, rfl, rfl⟩
      case round =>
        obtain ⟨r, hr, rfl, rfl⟩ := hrel
        have hcl := HL.out (64 * k + r)
        by_cases hr64 : r < 64
        · by_cases hki : ((64 * k + r : Nat) : Int) < i
          · have HS1 : Kept (blm f (64 * k + r + 1) i = blm f (64 * k + r) i + (x.testBit r).toNat) := Kept.mk (HI.out r hr64 hki)
            have hb := bit_at x r hfk
            have d1 : decide ((k : Int) * 64 + r < i) = true := decide_eq_true (by omega)
            have hki' : (k : Int) * 64 + r < i := by omega
            generalize blm f (64 * k + r) i = c at *
            cases hbt : x.testBit r
            · rw [hbt] at hb HS1
              have hb' : bits .and .u64 ((x : Int) / 2 ^ r) 1 = 0 := hb
              clear hb hbt hki
              go_wp2_with fail
              go_round
              case rel => exact ⟨r + 1, by omega, by go_num, by show _ = Value.int .i64 ((blm f (64 * k + r + 1) i : Nat) : Int); rw [HS1.out]; go_num⟩
              case measure => simp [intOf]; omega
            · rw [hbt] at hb HS1
              have hb' : bits .and .u64 ((x : Int) / 2 ^ r) 1 = 1 := hb
              clear hb hbt hki
              go_wp2_with fail
              go_round
              case rel => exact ⟨r + 1, by omega, by go_num, by show _ = Value.int .i64 ((blm f (64 * k + r + 1) i : Nat) : Int); rw [HS1.out]; go_num⟩
              case measure => simp [intOf]; omega
          · have HS1 : Kept (blm f (64 * k + r + 1) i = blm f (64 * k + r) i) := Kept.mk (HO.out _ (by omega))
            have d1 : decide ((k : Int) * 64 + r < i) = false := decide_eq_false (by omega)
            generalize blm f (64 * k + r) i = c at *
            clear hki
            go_wp2_with fail
            go_round
            case rel => exact ⟨r + 1, by omega, by go_num, by show _ = Value.int .i64 ((blm f (64 * k + r + 1) i : Nat) : Int); rw [HS1.out]⟩
            case measure => simp [intOf]; omega
        · have e64 : r = 64 := by omega
          subst e64
          go_wp2_with fail
          go_round
          case rel => exact ⟨k + 1, by omega, by go_num, rfl⟩
          case measure => simp [intOf]; omega
    · obtain rfl : k = n := by omega
      have HA : Kept (rk f i = blm f (64 * k) i) := Kept.mk (blm_all HZ.out i).symm
      generalize blm f (64 * k) i = c at *
      go_wp2_with fail
      refine Calls.mono (rank_bts B1.out (by omega) h2 HA.out) ?_
      rintro e w6 ⟨rfl, rfl⟩
      go_wp2_with fail
      go_ret
      exact ⟨by simp, W1.out⟩

theorem rk_zero (f : Nat → Nat) : rk f 0 = 0 := rfl
theorem rk_succ (f : Nat → Nat) (i : Int) (h : 0 ≤ i) : rk f (i + 1) = rk f i + (memI f i).toNat := by
  obtain ⟨j, rfl⟩ := Int.eq_ofNat_of_zero_le h
  show blw f ((j : Int) + 1).toNat = blw f (j : Int).toNat + (memI f (j : Int)).toNat
  rw [memI_nat, Int.toNat_natCast, show ((j : Int) + 1).toNat = j + 1 by omega]
  rfl
theorem rk_le (f : Nat → Nat) (i : Int) : rk f i ≤ i.toNat := blw_le f _

set_option maxRecDepth 100000 in
set_option maxHeartbeats 1000000 in
theorem istep (a : Option Addr) (n cap : Nat) (f : Nat → Nat) (wd bt : Nat) (w : World) (hr : Reads .u64 w a n f) (hf : Fit64 f) (hzf : ∀ i, n ≤ i → f i = 0) (hn : n ≤ cap) (hm : cap ≤ maxLen)
    (h1 : wd < 65536) (h2 : bt < 256) :
    Calls Ycwm.prog 5 #[.slice a n cap, .int .u16 wd, .int .u8 bt] w fun e w' => e = .returned (.bool true) ∧ Below w.heap.size w w' := by
  unfold maxLen at hm
  by_cases hbig : 1024 < n
  · go_enter Ycwm.func5, Ycwm.ntmps5
    go_wp2_with fail
    go_ret
    exact ⟨rfl, Below.refl _ _⟩
  have hb0 : decide ((1024 : Int) < (n : Int)) = false := decide_eq_false (by omega)
  have CC : Hid _ := icopy_any a n cap f w hr (by omega) hn hzf hf
  have HR : Hid (Reads .u64 w a n f) := hr
  clear hr hf hzf
  have hk0 : 0 ≤ (wd : Int) % ((n : Int) + 2) := Int.emod_nonneg _ (by omega)
  have hk1 : (wd : Int) % ((n : Int) + 2) < (n : Int) + 2 := Int.emod_lt_of_pos _ (by omega)
  go_enter Ycwm.func5, Ycwm.ntmps5
  go_wp2_with fail
  refine Calls.mono CC.out ?_
  rintro e w2 ⟨p, v, rfl, b2, bel2⟩
  have B1 : Hid (Bts _ _ _ _ _ _) := b2
  have W1 : Hid (Below _ _ _) := bel2
  have R0 : Hid (Reads .u64 w2 a n f) := HR.out.below bel2
  have hcell := b2.cell
  obtain ⟨a2, cap2, rfl, hr2, _⟩ := b2.slice
  have R1 : Hid (Reads .u64 w2 a2 n f) := hr2
  clear b2 bel2 hr2
  go_wp2_with fail
  have hi0 : 0 ≤ (wd : Int) % ((n : Int) + 2) * 64 + (bt : Int) % 64 := by omega
  have hi1 : (wd : Int) % ((n : Int) + 2) * 64 + (bt : Int) % 64 ≤ 1000000 := by omega
  generalize (wd : Int) % ((n : Int) + 2) * 64 + (bt : Int) % 64 = i at *
  have HS : Kept (rk f (i + 1) = rk f i + (memI f i).toNat) := Kept.mk (rk_succ f i hi0)
  have hrl : rk f i ≤ 1000000 := by have := rk_le f i; omega
  obtain ⟨r, hr⟩ : ∃ r, rk f i = r := ⟨_, rfl⟩
  have HRK : Kept (rk f i = r) := Kept.mk hr
  rw [hr] at HS hrl
  clear hr
  cases hb : memI f i
  all_goals
    have HB : Hid (memI f i = _) := hb
    rw [hb] at HS
    clear hb
    refine Calls.mono (has_eq B1.out (by omega) HB.out) ?_
    rintro e w6 ⟨rfl, rfl⟩
    go_wp2_with fail
    refine Calls.mono (rank_bts B1.out (by omega) (by omega) (rk_zero f)) ?_
    rintro e w7 ⟨rfl, rfl⟩
    go_wp2_with fail
    refine Calls.mono (rank_bts B1.out (by omega) (by omega) HS.out) ?_
    rintro e w8 ⟨rfl, rfl⟩
    go_wp2_with fail
    refine Calls.mono (rank_bts B1.out (by omega) (by omega) HRK.out) ?_
    rintro e w9 ⟨rfl, rfl⟩
    go_wp2_with fail
    go_loopw [10] (fun t wq => ∃ j : Nat, j ≤ n ∧ t = .int .i64 j ∧ Still w9 wq) (fun t _ => n - (intOf t).toNat)
    case atStart => exact ⟨0, by omega, rfl, Still.refl _⟩
    case round =>
      obtain ⟨j, hj, rfl, hst⟩ := hrel
      have HST : Hid (Still w9 wr) := hst
      clear hst
      by_cases hjk : j < n
      · obtain ⟨b, off, rfl, hc0⟩ := R0.out j hjk
        obtain ⟨b', off', rfl, hc1⟩ := R1.out j hjk
        have c0 : wr.cell? ⟨b, off + j, none⟩ = some (.int .u64 (f j)) := (HST.out.cell _).trans hc0
        have c1 : wr.cell? ⟨b', off' + j, none⟩ = some (.int .u64 (f j)) := (HST.out.cell _).trans hc1
        have c2 : wr.cell? ⟨p, 0, none⟩ = some (.slice (some ⟨b', off', none⟩) n cap2) := (HST.out.cell _).trans hcell
        have b1 : (0 : Int) ≤ (j : Int) := by omega
        have b2 : (j : Int) < (n : Int) := by omega
        clear hc0 hc1 hcell
        go_wp2_with fail
        go_quiet (fail)
        go_wp2_with fail
        go_roundw
        case rel => exact ⟨j + 1, by omega, by go_num, HST.out.drewN _⟩
        case measure => simp [intOf]; omega
      · obtain rfl : j = n := by omega
        go_wp2_with fail
        go_ret
        exact ⟨rfl, W1.out.trans HST.out.below⟩
end Go.Proofs.Ymbrcw.ILaws
