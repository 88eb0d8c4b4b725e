/-
  THE WALKS OF LawS930007AMember.
-/
import Derived.Test.YmbrcuSets
import Derived.Test.YmbrcuCopyU
namespace Go.Proofs.Ymbrcu.ALaws
open Go.RowKit Go.Proofs.Ymbrcu
set_option linter.unusedVariables false

theorem tmod_bd (d m : Int) (hm : 0 < m) : -m < d.tmod m ∧ d.tmod m < m := by
  constructor
  · have := Int.lt_tmod_of_pos d hm; omega
  · exact Int.tmod_lt_of_pos d hm

set_option maxHeartbeats 1000000 in
theorem apick_any (s : Nat) (d : Int) (w : World) (hs : s < 256) (h1 : -9223372036854775808 ≤ d) (h2 : d ≤ 9223372036854775807) :
    Calls Ycum.prog 15 #[.int .u8 s, .int .i64 d] w fun e w' => ∃ i : Int, e = .returned (.int .i64 i) ∧ -9223372036854775808 ≤ i ∧ i ≤ 9223372036854775807 ∧ w' = w := by
  have t8 := tmod_bd d 8 (by omega)
  have t1024 := tmod_bd d 1024 (by omega)
  have t70 := tmod_bd d 70 (by omega)
  have hm : s % 4 < 4 := Nat.mod_lt _ (by omega)
  have H : s % 4 = 0 ∨ s % 4 = 1 ∨ s % 4 = 2 ∨ s % 4 = 3 := by omega
  go_enter Ycum.func15, Ycum.ntmps15
  go_wp2_with fail
  · go_ret
    exact ⟨1048575 + d.tmod 8, rfl, by omega, by omega, rfl⟩
  · go_ret
    exact ⟨d.tmod 1024, rfl, by omega, by omega, rfl⟩
  · go_ret
    exact ⟨64 + d.tmod 70, rfl, by omega, by omega, rfl⟩
  · go_ret
    exact ⟨d, rfl, h1, h2, rfl⟩

theorem memI_big {f : Nat → Nat} {n : Nat} {i : Int} (hz : ∀ j, n ≤ j → f j = 0) (hn : n ≤ 16384) (hi : inR i = false) : memI f i = false := by
  unfold memI
  split
  · rfl
  · unfold mem
    have := inR_no hi
    rw [hz _ (by omega)]
    simp

theorem wrap_bd (x : Int) : -9223372036854775808 ≤ wrap64 x ∧ wrap64 x ≤ 9223372036854775807 := by
  unfold wrap64
  omega

set_option maxRecDepth 100000 in
set_option maxHeartbeats 4000000 in
theorem amember (a : Option Addr) (n cap : Nat) (f : Nat → Nat) (s : Nat) (d : Int) (near : Bool) (j : Int) (w : World) (hr : Reads .u64 w a n f) (hf : Fit64 f) (hzf : ∀ i, n ≤ i → f i = 0) (hn : n ≤ cap) (hm : cap ≤ maxLen) (hz : a = none → cap = 0)
    (hs : s < 256) (h1 : -9223372036854775808 ≤ d) (h2 : d ≤ 9223372036854775807) (h3 : -9223372036854775808 ≤ j) (h4 : j ≤ 9223372036854775807) :
    Calls Ycum.prog 4 #[.slice a n cap, .int .u8 s, .int .i64 d, .bool near, .int .i64 j] w fun e w' => e = .returned (.bool true) ∧ Below w.heap.size w w' := by
  unfold maxLen at hm
  by_cases hbig : 16384 < n
  · go_enter Ycum.func4, Ycum.ntmps4
    go_wp2_with fail
    go_ret
    exact ⟨rfl, Below.refl _ _⟩
  have CP : Hid (∀ w, _) := fun w => apick_any s d w hs h1 h2
  have CC : Hid _ := acopy_any a n cap f w hr (by omega) hn hz
  have HF : Hid (Fit64 f) := hf
  have HZ : Hid (∀ i, n ≤ i → f i = 0) := hzf
  clear hr hf hz hzf
  go_enter Ycum.func4, Ycum.ntmps4
  go_wp2_with fail
  refine Calls.mono (CP.out _) ?_
  rintro e w1 ⟨i, rfl, hi1, hi2, rfl⟩
  go_upto_if 24 with fail
  go_cut [12] (fun t wc => ∃ q : Int, t = .int .i64 q ∧ -9223372036854775808 ≤ q ∧ q ≤ 9223372036854775807 ∧ wc = w1)
  case first =>
    have tm := tmod_bd j 3 (by omega)
    cases near with
    | true =>
      have wb := wrap_bd (i + j.tmod 3)
      go_wp2_with fail
      go_meet
      case rel => exact ⟨_, rfl, wb.1, wb.2, rfl⟩
    | false =>
      go_wp2_with fail
      go_meet
      case rel => exact ⟨j, rfl, h3, h4, rfl⟩
  case rest =>
    obtain ⟨q, rfl, hq1, hq2, rfl⟩ := hcut
    go_wp2_with fail
    refine Calls.mono CC.out ?_
    rintro e w2 ⟨v, rfl, o2, b2, z2⟩
    obtain ⟨a2, cap2, rfl, _⟩ := o2.slice
    have B1 : Hid (Bts _ _ _ _ _ _) := bts_box o2 z2 HZ.out HF.out
    have W1 : Hid (Below _ _ _) := b2.alloc z2 (.cells #[.slice a2 n cap2] 27)
    clear o2 b2
    go_wp2_with fail
    have hbz : wc.heap.size ≤ (w2.alloc (.cells #[.slice a2 n cap2] 27)).heap.size := W1.out.size
    generalize w2.alloc (.cells #[.slice a2 n cap2] 27) = W at *
    generalize w2.heap.size = p at *
    have hc : (inR i = true ∧ decide (0 ≤ i) = true ∧ decide (i ≤ 1048575) = true) ∨ (inR i = false ∧ decide (0 ≤ i) = true ∧ decide (i ≤ 1048575) = false) ∨ (inR i = false ∧ decide (0 ≤ i) = false) := by
      unfold inR
      cases decide (0 ≤ i) <;> cases decide (i ≤ 1048575) <;> simp
    have HI : Hid (memI (setI f i) i = inR i) := by
      unfold Hid
      rw [memI_setI]
      cases h : inR i with
      | true => simp
      | false => rw [memI_big HZ.out (by omega) h]; rfl
    have HI2 : Hid (memI (setI (setI f i) i) i = inR i) := by
      unfold Hid
      rw [memI_setI, HI.out]
      cases inR i <;> simp
    have HQ : Hid (memI (setI f i) q = (memI f q || (inR i && decide (q = i)))) := memI_setI f i q
    have HQ2 : Hid (memI (setI (setI f i) i) q = (memI f q || (inR i && decide (q = i)))) := by
      unfold Hid
      rw [memI_setI, memI_setI]
      cases memI f q <;> cases inR i <;> cases decide (q = i) <;> rfl
    have hqi : (decide (q = i) = true ∧ (q == i) = true) ∨ (decide (q = i) = false ∧ (q == i) = false) := by
      by_cases e : q = i
      · left; simp [e]
      · right; simp [e]
    have hN1 : setN n i ≤ 1048576 := setN_le i (by omega) (by omega)
    have hN2 : n ≤ 1048576 := by omega
    have hN3 : setN (setN n i) i ≤ 1048576 := setN_le i hN1 (by omega)
    cases ho : memI f q
    all_goals
      have HO : Hid (memI f q = _) := ho
      clear ho
      rw [HO.out] at HQ HQ2
      rcases hc with ⟨hR, d1, d2⟩ | ⟨hR, d1, d2⟩ | ⟨hR, d1⟩
      all_goals
        have HRR : Hid (inR i = _) := hR
        clear hR
        rw [HRR.out] at HI HI2 HQ HQ2
        rcases hqi with ⟨e1, e2⟩ | ⟨e1, e2⟩
        all_goals
          rw [e1] at HQ HQ2
          clear e1
          refine Calls.mono (has_eq B1.out hq2 HO.out) ?_
          rintro e w4 ⟨rfl, rfl⟩
          go_wp2_with fail
          refine Calls.mono (set_eq B1.out hN2 hbz HRR.out) ?_
          rintro e w5 ⟨rfl, v5, b5, t5⟩
          have B5 : Hid (Bts _ _ _ _ _ _) := b5
          have T5 : Hid (Touch _ _ _ _ _) := t5
          have hz5 : wc.heap.size ≤ w5.heap.size := Nat.le_trans hbz t5.size
          clear b5 t5
          go_wp2_with fail
          refine Calls.mono (has_eq B5.out hi2 HI.out) ?_
          rintro e w6 ⟨rfl, rfl⟩
          go_wp2_with fail
          refine Calls.mono (has_eq B5.out hq2 HQ.out) ?_
          rintro e w7 ⟨rfl, rfl⟩
          go_wp2_with fail
          refine Calls.mono (set_eq B5.out hN1 hz5 HRR.out) ?_
          rintro e w8 ⟨rfl, v8, b8, t8⟩
          have B8 : Hid (Bts _ _ _ _ _ _) := b8
          have T8 : Hid (Touch _ _ _ _ _) := t8
          clear b8 t8
          go_wp2_with fail
          refine Calls.mono (has_eq B8.out hi2 HI2.out) ?_
          rintro e w9 ⟨rfl, rfl⟩
          go_wp2_with fail
          refine Calls.mono (has_eq B8.out hq2 HQ2.out) ?_
          rintro e w10 ⟨rfl, rfl⟩
          go_wp2_with fail
          go_ret
          exact ⟨rfl, (W1.out.trans (T5.out.below B1.out (Nat.le_refl _) hbz)).trans (T8.out.below B5.out (Nat.le_refl _) hz5)⟩
end Go.Proofs.Ymbrcu.ALaws
