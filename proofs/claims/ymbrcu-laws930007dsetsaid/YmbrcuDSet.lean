/-
  THE WALK OF LawS930007DSet.
-/
import Derived.Test.YmbrcuSets
import Derived.Test.YmbrcuCopyU
namespace Go.Proofs.Ymbrcu.DLaws
open Go.RowKit Go.Proofs.Ymbrcu
set_option linter.unusedVariables false

set_option maxRecDepth 100000 in
set_option maxHeartbeats 4000000 in
theorem dset (a : Option Addr) (n cap : Nat) (f : Nat → Nat) (x y : Int) (w : World) (hr : Reads .u64 w a n f) (hf : Fit64 f) (hzf : ∀ i, n ≤ i → f i = 0) (hn : n ≤ cap) (hm : cap ≤ maxLen)
    (h1 : -9223372036854775808 ≤ x) (h2 : x ≤ 9223372036854775807) (h3 : -9223372036854775808 ≤ y) (h4 : y ≤ 9223372036854775807) :
    Calls Ycum.prog 14 #[.slice a n cap, .int .i64 x, .int .i64 y] w fun e w' => e = .returned (.bool true) ∧ Below w.heap.size w w' := by
  unfold maxLen at hm
  by_cases hbig : 1024 < n
  · go_enter Ycum.func14, Ycum.ntmps14
    go_wp2_with fail
    go_ret
    exact ⟨rfl, Below.refl _ _⟩
  have CC : Hid _ := dcopy_any a n cap f w hr (by omega) hn
  have HF : Hid (Fit64 f) := hf
  have HZ : Hid (∀ i, n ≤ i → f i = 0) := hzf
  clear hr hf hzf
  go_enter Ycum.func14, Ycum.ntmps14
  go_wp2_with fail
  refine Calls.mono CC.out ?_
  rintro e w2 ⟨v, rfl, o2, b2, z2⟩
  obtain ⟨a2, cap2, rfl, _⟩ := o2.slice
  have B1 : Hid (Bts _ _ _ _ _ _) := bts_box o2 z2 HZ.out HF.out
  have W1 : Hid (Below _ _ _) := b2.alloc z2 (.cells #[.slice a2 n cap2] 27)
  clear o2 b2
  go_wp2_with fail
  have hbz : w.heap.size ≤ (w2.alloc (.cells #[.slice a2 n cap2] 27)).heap.size := W1.out.size
  generalize w2.alloc (.cells #[.slice a2 n cap2] 27) = W at *
  generalize w2.heap.size = p at *
  have hc : (inR x = true ∧ decide (0 ≤ x) = true ∧ decide (x ≤ 1048575) = true) ∨ (inR x = false ∧ decide (0 ≤ x) = true ∧ decide (x ≤ 1048575) = false) ∨ (inR x = false ∧ decide (0 ≤ x) = false) := by
    unfold inR
    cases decide (0 ≤ x) <;> cases decide (x ≤ 1048575) <;> simp
  have HX : Hid (memI (setI f x) x = (memI f x || inR x)) := by
    unfold Hid
    rw [memI_setI]
    simp
  have hN2 : n ≤ 1048576 := by omega
  by_cases hxy : x = y
  · subst hxy
    cases hbx : memI f x
    all_goals
      have BX : Hid (memI f x = _) := hbx
      clear hbx
      rw [BX.out] at HX
      rcases hc with ⟨hR, d1, d2⟩ | ⟨hR, d1, d2⟩ | ⟨hR, d1⟩
      all_goals
        have HRR : Hid (inR x = _) := hR
        clear hR
        rw [HRR.out] at HX
        refine Calls.mono (has_eq B1.out h2 BX.out) ?_
        rintro e w4 ⟨rfl, rfl⟩
        go_wp2_with fail
        refine Calls.mono (has_eq B1.out h2 BX.out) ?_
        rintro e w5 ⟨rfl, rfl⟩
        go_wp2_with fail
        refine Calls.mono (set_eq B1.out hN2 hbz HRR.out) ?_
        rintro e w6 ⟨rfl, v6, b6, t6⟩
        have B6 : Hid (Bts _ _ _ _ _ _) := b6
        have T6 : Hid (Touch _ _ _ _ _) := t6
        clear b6 t6
        go_wp2_with fail
        refine Calls.mono (has_eq B6.out h2 HX.out) ?_
        rintro e w7 ⟨rfl, rfl⟩
        go_wp2_with fail
        go_ret
        exact ⟨rfl, W1.out.trans (T6.out.below B1.out (Nat.le_refl _) hbz)⟩
  · have hxy' : (x == y) = false := beq_eq_false_iff_ne.2 hxy
    have HY : Hid (memI (setI f x) y = memI f y) := by
      unfold Hid
      rw [memI_setI, decide_eq_false (fun e => hxy e.symm)]
      simp
    clear hxy
    cases hbx : memI f x
    all_goals
      have BX : Hid (memI f x = _) := hbx
      clear hbx
      rw [BX.out] at HX
      cases hby : memI f y
      all_goals
        have BY : Hid (memI f y = _) := hby
        clear hby
        rw [BY.out] at HY
        rcases hc with ⟨hR, d1, d2⟩ | ⟨hR, d1, d2⟩ | ⟨hR, d1⟩
        all_goals
          have HRR : Hid (inR x = _) := hR
          clear hR
          rw [HRR.out] at HX
          refine Calls.mono (has_eq B1.out h2 BX.out) ?_
          rintro e w4 ⟨rfl, rfl⟩
          go_wp2_with fail
          refine Calls.mono (has_eq B1.out h4 BY.out) ?_
          rintro e w5 ⟨rfl, rfl⟩
          go_wp2_with fail
          refine Calls.mono (set_eq B1.out hN2 hbz HRR.out) ?_
          rintro e w6 ⟨rfl, v6, b6, t6⟩
          have B6 : Hid (Bts _ _ _ _ _ _) := b6
          have T6 : Hid (Touch _ _ _ _ _) := t6
          clear b6 t6
          go_wp2_with fail
          refine Calls.mono (has_eq B6.out h2 HX.out) ?_
          rintro e w7 ⟨rfl, rfl⟩
          go_wp2_with fail
          refine Calls.mono (has_eq B6.out h4 HY.out) ?_
          rintro e w8 ⟨rfl, rfl⟩
          go_wp2_with fail
          go_ret
          exact ⟨rfl, W1.out.trans (T6.out.below B1.out (Nat.le_refl _) hbz)⟩
end Go.Proofs.Ymbrcu.DLaws
