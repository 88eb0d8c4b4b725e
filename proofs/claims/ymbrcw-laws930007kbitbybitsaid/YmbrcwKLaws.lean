/-
  THE WALKS OF LawS930007KBitByBit AND LawS930007KSetStep.
-/
import Derived.Test.YmbrcwCount
import Derived.Test.YmbrcwCopyW
namespace Go.Proofs.Ymbrcw.KLaws
open Go.RowKit Go.Proofs.Ymbrcw Go.Proofs.Ymbrcw.Pop
set_option linter.unusedVariables false

set_option maxRecDepth 100000 in
set_option maxHeartbeats 1000000 in
theorem kbits (a : Option Addr) (n cap : Nat) (f : Nat → Nat) (w : World) (hr : Reads .u64 w a n f) (hf : Fit64 f) (hzf : ∀ i, n ≤ i → f i = 0) (hn : n ≤ cap) (hm : cap ≤ maxLen) :
    Calls Ycwm.prog 9 #[.slice a n cap] w fun e w' => e = .returned (.bool true) ∧ Below w.heap.size w w' := by
  unfold maxLen at hm
  by_cases hbig : 1024 < n
  · go_enter Ycwm.func9, Ycwm.ntmps9
    go_wp2_with fail
    go_ret
    exact ⟨rfl, Below.refl _ _⟩
  have hb0 : decide ((1024 : Int) < (n : Int)) = false := decide_eq_false (by omega)
  have CC : Hid _ := kcopy_any a n cap f w hr (by omega) hn
  have HF : Hid (Fit64 f) := hf
  have HZ : Hid (∀ i, n ≤ i → f i = 0) := hzf
  have HR : Hid (Reads .u64 w a n f) := hr
  clear hr hf hzf
  go_enter Ycwm.func9, Ycwm.ntmps9
  go_wp2_with fail
  refine Calls.mono CC.out ?_
  rintro e w2 ⟨v, rfl, o2, b2, z2⟩
  obtain ⟨a2, cap2, rfl, _⟩ := o2.slice
  have B1 : Hid (Bts _ _ _ _ _ _) := bts_box o2 z2 HZ.out HF.out
  have W1 : Hid (Below _ _ _) := b2.alloc z2 (.cells #[.slice a2 n cap2] 37)
  clear o2 b2
  go_wp2_with fail
  generalize w2.alloc (.cells #[.slice a2 n cap2] 37) = W at *
  generalize w2.heap.size = p at *
  have R0 : Hid (Reads .u64 W a n f) := HR.out.below W1.out
  have R1 : Hid (Reads .u64 W a2 n f) := by
    obtain ⟨_, _, e, hr, _⟩ := B1.out.slice
    cases e
    exact hr
  have hcell := B1.out.cell
  obtain ⟨tot, htot⟩ : ∃ t, cnt f n = t := ⟨_, rfl⟩
  refine Calls.mono (count_bts B1.out (by omega) htot) ?_
  rintro e w5 ⟨rfl, rfl⟩
  have HT : Kept (cnt f n = tot) := Kept.mk htot
  have htl : tot ≤ 64 * n := by rw [← htot]; exact cnt_le f n
  clear htot
  go_wp2_with fail
  go_loop [5, 6] (fun c t => ∃ k : Nat, k ≤ n ∧ t = .int .i64 k ∧ c = .int .i64 (cnt f k)) (fun _ t => n - (intOf t).toNat)
  case atStart => exact ⟨0, by omega, rfl, rfl⟩
  case round =>
    obtain ⟨k, hk, rfl, rfl⟩ := hrel
    have hcl := cnt_le f k
    by_cases hlt : k < n
    · obtain ⟨b, off, rfl, hc⟩ := R0.out k hlt
      have hfk := HF.out k
      have HS : Kept (cnt f (k + 1) = cnt f k + pcTo (f k) 64) := Kept.mk (by
        rw [← pop_pcTo]
        rfl)
      have HP : Hid (∀ i, pcTo (f k) (i + 1) = pcTo (f k) i + ((f k).testBit i).toNat) := pcTo_bit (f k)
      have HPL : Hid (∀ i, pcTo (f k) i ≤ i) := pcTo_le (f k)
      generalize f k = x at *
      generalize cnt f k = c at *
      go_wp2_with fail
      go_loop [5, 7] (fun c' t => ∃ i : Nat, i ≤ 64 ∧ t = .int .u64 i ∧ c' = .int .i64 ((c + pcTo x i : Nat) : Int)) (fun _ t => 64 - (intOf t).toNat)
      case atStart => exact ⟨0, by omega, rfl, rfl⟩
      case round =>
        obtain ⟨i, hi, rfl, rfl⟩ := hrel
        have hpl := HPL.out i
        by_cases hi64 : i < 64
        · have HS1 : Kept (pcTo x (i + 1) = pcTo x i + (x.testBit i).toNat) := Kept.mk (HP.out i)
          have hb := bit_at x i hfk
          generalize pcTo x i = t at *
          cases hbt : x.testBit i
          · rw [hbt] at hb HS1
            have hb' : bits .and .u64 ((x : Int) / 2 ^ i) 1 = 0 := hb
            clear hb hbt
            go_wp2_with fail
            go_round
            case rel => exact ⟨i + 1, by omega, by go_num, by rw [HS1.out]; go_num⟩
            case measure => simp [intOf]; omega
          · rw [hbt] at hb HS1
            have hb' : bits .and .u64 ((x : Int) / 2 ^ i) 1 = 1 := hb
            clear hb hbt
            go_wp2_with fail
            go_round
            case rel => exact ⟨i + 1, by omega, by go_num, by rw [HS1.out]; simp; omega⟩
            case measure => simp [intOf]; omega
        · have e64 : i = 64 := by omega
          subst e64
          generalize pcTo x 64 = t at *
          go_wp2_with fail
          go_round
          case rel => exact ⟨k + 1, by omega, by go_num, by rw [HS.out]⟩
          case measure => simp [intOf]; omega
    · obtain rfl : k = n := by omega
      rw [HT.out]
      go_wp2_with fail
      go_loopw [8] (fun t wq => ∃ j : Nat, j ≤ k ∧ t = .int .i64 j ∧ Still w5 wq) (fun t _ => k - (intOf t).toNat)
      case atStart => exact ⟨0, by omega, rfl, Still.refl _⟩
      case round =>
        obtain ⟨j, hj, rfl, hst⟩ := hrel
        have HST : Hid (Still w5 wr) := hst
        clear hst
        by_cases hjk : j < k
        · obtain ⟨b, off, rfl, hc0⟩ := R0.out j hjk
          obtain ⟨b', off', rfl, hc1⟩ := R1.out j hjk
          have c0 : wr.cell? ⟨b, off + j, none⟩ = some (.int .u64 (f j)) := (HST.out.cell _).trans hc0
          have c1 : wr.cell? ⟨b', off' + j, none⟩ = some (.int .u64 (f j)) := (HST.out.cell _).trans hc1
          have c2 : wr.cell? ⟨p, 0, none⟩ = some (.slice (some ⟨b', off', none⟩) k cap2) := (HST.out.cell _).trans hcell
          have b1 : (0 : Int) ≤ (j : Int) := by omega
          have b2 : (j : Int) < (k : Int) := by omega
          clear hc0 hc1 hcell
          go_wp2_with fail
          go_quiet (fail)
          go_wp2_with fail
          go_roundw
          case rel => exact ⟨j + 1, by omega, by go_num, HST.out.drewN _⟩
          case measure => simp [intOf]; omega
        · obtain rfl : j = k := by omega
          go_wp2_with fail
          go_ret
          exact ⟨rfl, W1.out.trans HST.out.below⟩

/-- What Set does to the count. -/
theorem cnt_setI {n : Nat} {f : Nat → Nat} (hz : ∀ i, n ≤ i → f i = 0) (i : Int) : cnt (setI f i) (setN n i) = cnt f n + (inR i && !memI f i).toNat := by
  cases h : inR i with
  | false =>
    have e1 : setN n i = n := by unfold setN; rw [h, if_neg (by decide)]
    have e2 : setI f i = f := by unfold setI; rw [h, if_neg (by decide)]
    rw [e1, e2]
    rfl
  | true =>
    obtain ⟨h0, h1⟩ := inR_iff.1 h
    obtain ⟨x, rfl⟩ := Int.eq_ofNat_of_zero_le h0
    have e1 : setN n (x : Int) = max n (x / 64 + 1) := by unfold setN; rw [if_pos h, Int.toNat_natCast]
    have e2 : setI f (x : Int) = setf f x := by unfold setI; rw [if_pos h, Int.toNat_natCast]
    rw [e1, e2]
    have hx : x < 64 * max n (x / 64 + 1) := by omega
    rw [cnt_blw, blw_set, cnt_all hz (i := 64 * max n (x / 64 + 1)) (by omega), decide_eq_true hx]
    show _ = _ + (true && !memI f (x : Int)).toNat
    rw [memI_nat]

set_option maxRecDepth 100000 in
set_option maxHeartbeats 1000000 in
theorem kset (a : Option Addr) (n cap : Nat) (f : Nat → Nat) (i : Int) (w : World) (hr : Reads .u64 w a n f) (hf : Fit64 f) (hzf : ∀ i, n ≤ i → f i = 0) (hn : n ≤ cap) (hm : cap ≤ maxLen)
    (h1 : -9223372036854775808 ≤ i) (h2 : i ≤ 9223372036854775807) :
    Calls Ycwm.prog 11 #[.slice a n cap, .int .i64 i] w fun e w' => e = .returned (.bool true) ∧ Below w.heap.size w w' := by
  unfold maxLen at hm
  by_cases hbig : 1024 < n
  · go_enter Ycwm.func11, Ycwm.ntmps11
    go_wp2_with fail
    go_ret
    exact ⟨rfl, Below.refl _ _⟩
  have CC : Hid _ := kcopy_any a n cap f w hr (by omega) hn
  have HF : Hid (Fit64 f) := hf
  have HZ : Hid (∀ i, n ≤ i → f i = 0) := hzf
  clear hr hf hzf
  go_enter Ycwm.func11, Ycwm.ntmps11
  go_wp2_with fail
  refine Calls.mono CC.out ?_
  rintro e w2 ⟨v, rfl, o2, b2, z2⟩
  obtain ⟨a2, cap2, rfl, _⟩ := o2.slice
  have B1 : Hid (Bts _ _ _ _ _ _) := bts_box o2 z2 HZ.out HF.out
  have W1 : Hid (Below _ _ _) := b2.alloc z2 (.cells #[.slice a2 n cap2] 37)
  clear o2 b2
  go_wp2_with fail
  have hbz : w.heap.size ≤ (w2.alloc (.cells #[.slice a2 n cap2] 37)).heap.size := W1.out.size
  generalize w2.alloc (.cells #[.slice a2 n cap2] 37) = W at *
  generalize w2.heap.size = p at *
  have HS : Kept (cnt (setI f i) (setN n i) = cnt f n + (inR i && !memI f i).toNat) := Kept.mk (cnt_setI HZ.out i)
  have hcl := cnt_le f n
  obtain ⟨c, hc0⟩ : ∃ c, cnt f n = c := ⟨_, rfl⟩
  have CN : Hid _ := count_bts B1.out (by omega) hc0
  rw [hc0] at HS hcl
  clear hc0
  have hN : setN n i ≤ 1048576 := setN_le i (by omega) (by omega)
  have hc : (inR i = true ∧ decide (0 ≤ i) = true ∧ decide (i ≤ 1048575) = true) ∨ (inR i = false ∧ decide (0 ≤ i) = true ∧ decide (i ≤ 1048575) = false) ∨ (inR i = false ∧ decide (0 ≤ i) = false) := by
    unfold inR
    cases decide (0 ≤ i) <;> cases decide (i ≤ 1048575) <;> simp
  rcases hc with ⟨hR, d1, d2⟩ | hc
  · have HRR : Hid (inR i = true) := hR
    rw [hR] at HS
    clear hR
    cases hb : memI f i
    all_goals
      have HB : Hid (memI f i = _) := hb
      rw [hb] at HS
      clear hb
      refine Calls.mono CN.out ?_
      rintro e w5 ⟨rfl, rfl⟩
      go_wp2_with fail
      refine Calls.mono (has_eq B1.out h2 HB.out) ?_
      rintro e w6 ⟨rfl, rfl⟩
      go_wp2_with fail
      refine Calls.mono (set_eq B1.out (by omega) hbz HRR.out) ?_
      rintro e w7 ⟨rfl, v7, b7, t7⟩
      have B7 : Hid (Bts _ _ _ _ _ _) := b7
      have W7 : Hid (Below _ _ _) := W1.out.trans (t7.below B1.out (Nat.le_refl _) hbz)
      clear b7 t7
      go_wp2_with fail
      refine Calls.mono (count_bts B7.out hN HS.out) ?_
      rintro e w8 ⟨rfl, rfl⟩
      go_wp2_with fail
      go_ret
      exact ⟨by simp, W7.out⟩
  · have hR : inR i = false := by rcases hc with h | h; exact h.1; exact h.1
    have HRR : Hid (inR i = false) := hR
    rw [hR] at HS
    clear hR
    rcases hc with ⟨_, d1, d2⟩ | ⟨_, d1⟩
    all_goals
      refine Calls.mono CN.out ?_
      rintro e w5 ⟨rfl, rfl⟩
      go_wp2_with fail
      refine Calls.mono (set_eq B1.out (by omega) hbz HRR.out) ?_
      rintro e w7 ⟨rfl, v7, b7, t7⟩
      have B7 : Hid (Bts _ _ _ _ _ _) := b7
      have W7 : Hid (Below _ _ _) := W1.out.trans (t7.below B1.out (Nat.le_refl _) hbz)
      clear b7 t7
      go_wp2_with fail
      refine Calls.mono (count_bts B7.out hN HS.out) ?_
      rintro e w8 ⟨rfl, rfl⟩
      go_wp2_with fail
      go_ret
      exact ⟨by simp, W7.out⟩
end Go.Proofs.Ymbrcw.KLaws
