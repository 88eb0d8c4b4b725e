/-
  THE WALK OF LawS930007AWords.
-/
import Derived.Test.YmbrcuALaws
namespace Go.Proofs.Ymbrcu.ALaws
open Go.RowKit Go.Proofs.Ymbrcu
set_option linter.unusedVariables false

/-- What atrimmed answers. -/
def trB (n : Nat) (f : Nat → Nat) : Bool := decide (n = 0) || decide (f (n - 1) ≠ 0)
theorem trB_iff {n : Nat} {f : Nat → Nat} : trB n f = true ↔ Trimmed n f := by simp [trB, Trimmed]

set_option maxHeartbeats 1000000 in
theorem atrimmed_any (a : Option Addr) (n cap : Nat) (f : Nat → Nat) (w : World) (hr : Reads .u64 w a n f) (hn : n ≤ 1048576) :
    Calls Ycum.prog 18 #[.slice a n cap] w fun e w' => e = .returned (.bool (trB n f)) ∧ w' = w := by
  rcases Nat.eq_zero_or_pos n with h0 | h0
  · subst h0
    clear hr
    go_enter Ycum.func18, Ycum.ntmps18
    go_wp2_with fail
    go_ret
    exact ⟨rfl, rfl⟩
  · obtain ⟨b, off, rfl, hc⟩ := hr (n - 1) (by omega)
    clear hr
    have h1 : ((n : Int) == 0) = false := beq_eq_false_iff_ne.2 (by omega)
    have HT : Hid (trB n f = decide (f (n - 1) ≠ 0)) := by
      unfold Hid trB
      rw [decide_eq_false (by omega : ¬ n = 0), Bool.false_or]
    generalize f (n - 1) = y at *
    have HY : Hid (decide (y ≠ 0) = ((y : Int) != 0)) := by
      unfold Hid
      rw [Bool.eq_iff_iff, decide_eq_true_iff, bne_iff_ne]
      omega
    go_enter Ycum.func18, Ycum.ntmps18
    go_wp2_with fail
    go_ret
    exact ⟨ret_bool (by rw [HT.out, HY.out]), rfl⟩

theorem and_63 (i : Nat) (h : i ≤ 1048575) : bits .and .i64 (i : Int) 63 = (i : Int) % 64 := by
  show IntKind.i64.wrap ((BitVec.ofInt 64 (i : Int) &&& BitVec.ofInt 64 63).toNat : Int) = _
  have h1 : (BitVec.ofInt 64 (i : Int)).toNat = i := ofInt_u64 i (by omega)
  have h2 : (BitVec.ofInt 64 63).toNat = 63 := by decide
  have h3 : i &&& 63 = i % 64 := by
    have := Nat.and_two_pow_sub_one_eq_mod i 6
    simpa using this
  rw [BitVec.toNat_and, h1, h2, h3, IntKind.wrap_i64]
  omega

/-- The same, told of the answer. -/
theorem atrimmed_eq {a : Option Addr} {n cap : Nat} {f : Nat → Nat} {w : World} (hr : Reads .u64 w a n f) (hn : n ≤ 1048576) {r : Bool} (h : trB n f = r) :
    Calls Ycum.prog 18 #[.slice a n cap] w fun e w' => e = .returned (.bool r) ∧ w' = w := h ▸ atrimmed_any a n cap f w hr hn

set_option maxRecDepth 100000 in
set_option maxHeartbeats 4000000 in
theorem awords (a : Option Addr) (n cap : Nat) (f : Nat → Nat) (s : Nat) (d : Int) (w : World) (hr : Reads .u64 w a n f) (hf : Fit64 f) (hzf : ∀ i, n ≤ i → f i = 0) (hn : n ≤ cap) (hm : cap ≤ maxLen) (hz : a = none → cap = 0)
    (hs : s < 256) (h1 : -9223372036854775808 ≤ d) (h2 : d ≤ 9223372036854775807) :
    Calls Ycum.prog 3 #[.slice a n cap, .int .u8 s, .int .i64 d] w fun e w' => e = .returned (.bool true) ∧ Below w.heap.size w w' := by
  unfold maxLen at hm
  by_cases hbig : 16384 < n
  · go_enter Ycum.func3, Ycum.ntmps3
    go_wp2_with fail
    go_ret
    exact ⟨rfl, Below.refl _ _⟩
  have CP : Hid (∀ w, _) := fun w => apick_any s d w hs h1 h2
  have CC : Hid _ := acopy_any a n cap f w hr (by omega) hn hz
  have HF : Hid (Fit64 f) := hf
  have HZ : Hid (∀ i, n ≤ i → f i = 0) := hzf
  have HR : Hid (Reads .u64 w a n f) := hr
  clear hr hf hz hzf
  go_enter Ycum.func3, Ycum.ntmps3
  go_wp2_with fail
  refine Calls.mono (CP.out _) ?_
  rintro e w1 ⟨i, rfl, hi1, hi2, rfl⟩
  go_wp2_with fail
  refine Calls.mono CC.out ?_
  rintro e w2 ⟨v, rfl, o2, b2, z2⟩
  obtain ⟨a2, cap2, rfl, _⟩ := o2.slice
  have B1 : Hid (Bts _ _ _ _ _ _) := bts_box o2 z2 HZ.out HF.out
  have W1 : Hid (Below _ _ _) := b2.alloc z2 (.cells #[.slice a2 n cap2] 27)
  clear o2 b2
  go_wp2_with fail
  have hbz : w1.heap.size ≤ (w2.alloc (.cells #[.slice a2 n cap2] 27)).heap.size := W1.out.size
  generalize w2.alloc (.cells #[.slice a2 n cap2] 27) = W at *
  generalize w2.heap.size = p at *
  have hN1 : setN n i ≤ 1048576 := setN_le i (by omega) (by omega)
  have hN2 : n ≤ 1048576 := by omega
  have hc : (inR i = true ∧ decide (0 ≤ i) = true ∧ decide (i ≤ 1048575) = true) ∨ (inR i = false ∧ decide (0 ≤ i) = true ∧ decide (i ≤ 1048575) = false) ∨ (inR i = false ∧ decide (0 ≤ i) = false) := by
    unfold inR
    cases decide (0 ≤ i) <;> cases decide (i ≤ 1048575) <;> simp
  rcases hc with ⟨hR, d1, d2⟩ | hc
  · obtain ⟨hi3, hi4⟩ := inR_iff.1 hR
    obtain ⟨i, rfl⟩ := Int.eq_ofNat_of_zero_le hi3
    have e1 : setN n (i : Int) = max n (i / 64 + 1) := by unfold setN; rw [if_pos hR, Int.toNat_natCast]
    have e2 : setI f (i : Int) = setf f i := by unfold setI; rw [if_pos hR, Int.toNat_natCast]
    have HRR : Hid (inR (i : Int) = true) := hR
    have CS : Hid _ := set_eq B1.out hN2 hbz HRR.out
    rw [e1, e2] at CS
    have hi5 : i ≤ 1048575 := by omega
    have HTr : Hid (trB n f = true → trB (max n (i / 64 + 1)) (setf f i) = true) := fun h => trB_iff.2 (trimmed_setf (trB_iff.1 h) i)
    clear hR e1 e2 hN1
    by_cases hni : n ≤ i / 64
    · have hmax : max n (i / 64 + 1) = (i / 64 + 1) := by omega
      rw [hmax] at CS HTr
      clear hmax
      refine Calls.mono CS.out ?_
      rintro e w5 ⟨rfl, v5, b5, t5⟩
      have B5 : Hid (Bts _ _ _ _ _ _) := b5
      have T5 : Hid (Touch _ _ _ _ _) := t5
      have hz5 : w1.heap.size ≤ w5.heap.size := Nat.le_trans hbz t5.size
      have hcell := b5.cell
      obtain ⟨a5, c5, rfl, hr5, _⟩ := b5.slice
      have R5 : Hid (Reads .u64 w5 a5 (i / 64 + 1) (setf f i)) := hr5
      have W5 : Hid (Below w1.heap.size w1 w5) := W1.out.trans (t5.below B1.out (Nat.le_refl _) hbz)
      have R0 : Hid (Reads .u64 w5 a n f) := HR.out.below W5.out
      clear b5 t5 hr5
      go_wp2_with fail
      go_loop [12] (fun t => ∃ k : Nat, k ≤ (i / 64 + 1) ∧ t = .int .i64 k) (fun t => (i / 64 + 1) - (intOf t).toNat)
      case atStart => exact ⟨0, by omega, rfl⟩
      case round =>
        obtain ⟨k, hk, rfl⟩ := hrel
        by_cases hlt : k < (i / 64 + 1)
        · obtain ⟨bb, off, rfl, c1⟩ := R5.out k hlt
          have ha63 := and_63 i hi5
          have hwp := wrap_pow' (i % 64) (by omega)
          by_cases hki : k = i / 64
          · have ck : setf f i k = f k ||| 2 ^ (i % 64) := by rw [hki]; unfold setf; rw [upd_same]
            rw [ck] at c1
            have hor := or_pow (f k) (i % 64) (HF.out k) (by omega)
            have e1 : ((k : Int) == (i : Int) / 64) = true := beq_iff_eq.2 (by omega)
            clear ck
            by_cases hkn : k < n
            · obtain ⟨bb', off', rfl, c2⟩ := R0.out k hkn
              clear hki
              go_wp2_with fail
              go_round
              case rel => exact ⟨k + 1, by omega, by go_num⟩
              case measure => simp [intOf]; omega
            · have hk0 : f k = 0 := HZ.out k (by omega)
              rw [hk0] at hor c1
              have hor' : bits .or .u64 0 (2 ^ (i % 64)) = ((0 ||| 2 ^ (i % 64) : Nat) : Int) := hor
              clear hor hki
              go_wp2_with fail
              go_round
              case rel => exact ⟨k + 1, by omega, by go_num⟩
              case measure => simp [intOf]; omega
          · have ck : setf f i k = f k := by unfold setf; rw [upd_other _ _ _ _ hki]
            rw [ck] at c1
            have e1 : ((k : Int) == (i : Int) / 64) = false := beq_eq_false_iff_ne.2 (by omega)
            clear ck
            by_cases hkn : k < n
            · obtain ⟨bb', off', rfl, c2⟩ := R0.out k hkn
              go_wp2_with fail
              go_round
              case rel => exact ⟨k + 1, by omega, by go_num⟩
              case measure => simp [intOf]; omega
            · have hk0 : f k = 0 := HZ.out k (by omega)
              rw [hk0] at c1
              go_wp2_with fail
              go_round
              case rel => exact ⟨k + 1, by omega, by go_num⟩
              case measure => simp [intOf]; omega
        · have hkM : k = (i / 64 + 1) := by omega
          
          cases ht : trB n f
          all_goals
            have HT : Hid (trB n f = _) := ht
            clear ht
            go_wp2_with fail
            refine Calls.mono (atrimmed_eq R0.out (by omega) HT.out) ?_
            rintro e w6 ⟨rfl, rfl⟩
            go_wp2_with fail
            try
              refine Calls.mono (atrimmed_eq R5.out (by omega) (HTr.out HT.out)) ?_
              rintro e w7 ⟨rfl, rfl⟩
              go_wp2_with fail
            go_ret
            exact ⟨rfl, W5.out⟩
    · have hmax : max n (i / 64 + 1) = n := by omega
      rw [hmax] at CS HTr
      clear hmax
      refine Calls.mono CS.out ?_
      rintro e w5 ⟨rfl, v5, b5, t5⟩
      have B5 : Hid (Bts _ _ _ _ _ _) := b5
      have T5 : Hid (Touch _ _ _ _ _) := t5
      have hz5 : w1.heap.size ≤ w5.heap.size := Nat.le_trans hbz t5.size
      have hcell := b5.cell
      obtain ⟨a5, c5, rfl, hr5, _⟩ := b5.slice
      have R5 : Hid (Reads .u64 w5 a5 n (setf f i)) := hr5
      have W5 : Hid (Below w1.heap.size w1 w5) := W1.out.trans (t5.below B1.out (Nat.le_refl _) hbz)
      have R0 : Hid (Reads .u64 w5 a n f) := HR.out.below W5.out
      clear b5 t5 hr5
      go_wp2_with fail
      go_loop [12] (fun t => ∃ k : Nat, k ≤ n ∧ t = .int .i64 k) (fun t => n - (intOf t).toNat)
      case atStart => exact ⟨0, by omega, rfl⟩
      case round =>
        obtain ⟨k, hk, rfl⟩ := hrel
        by_cases hlt : k < n
        · obtain ⟨bb, off, rfl, c1⟩ := R5.out k hlt
          have ha63 := and_63 i hi5
          have hwp := wrap_pow' (i % 64) (by omega)
          by_cases hki : k = i / 64
          · have ck : setf f i k = f k ||| 2 ^ (i % 64) := by rw [hki]; unfold setf; rw [upd_same]
            rw [ck] at c1
            have hor := or_pow (f k) (i % 64) (HF.out k) (by omega)
            have e1 : ((k : Int) == (i : Int) / 64) = true := beq_iff_eq.2 (by omega)
            clear ck
            by_cases hkn : k < n
            · obtain ⟨bb', off', rfl, c2⟩ := R0.out k hkn
              clear hki
              go_wp2_with fail
              go_round
              case rel => exact ⟨k + 1, by omega, by go_num⟩
              case measure => simp [intOf]; omega
            · exact absurd hlt hkn
          · have ck : setf f i k = f k := by unfold setf; rw [upd_other _ _ _ _ hki]
            rw [ck] at c1
            have e1 : ((k : Int) == (i : Int) / 64) = false := beq_eq_false_iff_ne.2 (by omega)
            clear ck
            by_cases hkn : k < n
            · obtain ⟨bb', off', rfl, c2⟩ := R0.out k hkn
              go_wp2_with fail
              go_round
              case rel => exact ⟨k + 1, by omega, by go_num⟩
              case measure => simp [intOf]; omega
            · exact absurd hlt hkn
        · have hkM : k = n := by omega
          cases ht : trB n f
          all_goals
            have HT : Hid (trB n f = _) := ht
            clear ht
            go_wp2_with fail
            refine Calls.mono (atrimmed_eq R0.out (by omega) HT.out) ?_
            rintro e w6 ⟨rfl, rfl⟩
            go_wp2_with fail
            try
              refine Calls.mono (atrimmed_eq R5.out (by omega) (HTr.out HT.out)) ?_
              rintro e w7 ⟨rfl, rfl⟩
              go_wp2_with fail
            go_ret
            exact ⟨rfl, W5.out⟩
  · have hR : inR i = false := by rcases hc with h | h; exact h.1; exact h.1
    have e1 : setN n i = n := by unfold setN; rw [hR, if_neg (by decide)]
    have e2 : setI f i = f := by unfold setI; rw [hR, if_neg (by decide)]
    have HRR : Hid (inR i = false) := hR
    have CS : Hid _ := set_eq B1.out hN2 hbz HRR.out
    rw [e1, e2] at CS
    clear hR e1 e2 hN1
    rcases hc with ⟨_, d1, d2⟩ | ⟨_, d1⟩
    all_goals
      refine Calls.mono CS.out ?_
      rintro e w5 ⟨rfl, v5, b5, t5⟩
      have B5 : Hid (Bts _ _ _ _ _ _) := b5
      have T5 : Hid (Touch _ _ _ _ _) := t5
      have hz5 : w1.heap.size ≤ w5.heap.size := Nat.le_trans hbz t5.size
      have hcell := b5.cell
      obtain ⟨a5, c5, rfl, hr5, _⟩ := b5.slice
      have R5 : Hid (Reads .u64 w5 a5 n f) := hr5
      have W5 : Hid (Below w1.heap.size w1 w5) := W1.out.trans (t5.below B1.out (Nat.le_refl _) hbz)
      have R0 : Hid (Reads .u64 w5 a n f) := HR.out.below W5.out
      clear b5 t5 hr5
      go_wp2_with fail
      go_loop [12] (fun t => ∃ k : Nat, k ≤ n ∧ t = .int .i64 k) (fun t => n - (intOf t).toNat)
      case atStart => exact ⟨0, by omega, rfl⟩
      case round =>
        obtain ⟨k, hk, rfl⟩ := hrel
        by_cases hlt : k < n
        · obtain ⟨bb, off, rfl, c1⟩ := R5.out k hlt
          obtain ⟨bb', off', rfl, c2⟩ := R0.out k hlt
          go_wp2_with fail
          go_round
          case rel => exact ⟨k + 1, by omega, by go_num⟩
          case measure => simp [intOf]; omega
        · obtain rfl : k = n := by omega
          cases ht : trB k f
          all_goals
            have HT : Hid (trB k f = _) := ht
            clear ht
            go_wp2_with fail
            refine Calls.mono (atrimmed_eq R0.out (by omega) HT.out) ?_
            rintro e w6 ⟨rfl, rfl⟩
            go_wp2_with fail
            try
              refine Calls.mono (atrimmed_eq R5.out (by omega) HT.out) ?_
              rintro e w7 ⟨rfl, rfl⟩
              go_wp2_with fail
            go_ret
            exact ⟨rfl, W5.out⟩
end Go.Proofs.Ymbrcu.ALaws
