/-
  THE WALK OF Clear.
-/
import Derived.Test.YmbrcuSets
import Derived.Test.YmbrcuTrim
import Derived.Laws.BitsAllLaws
namespace Go.Proofs.Ymbrcu
open Go.RowKit
set_option linter.unusedVariables false

/-- Word x with bit j taken out. -/
def clw (x j : Nat) : Nat := x &&& (18446744073709551615 - 2 ^ j)
theorem clw_lt (x j : Nat) (hx : x < 18446744073709551616) : clw x j < 18446744073709551616 := Nat.lt_of_le_of_lt Nat.and_le_left hx
theorem clw_bit (x j k : Nat) (hx : x < 18446744073709551616) (hj : j < 64) : (clw x j).testBit k = (x.testBit k && decide (k ≠ j)) := by
  unfold clw
  rw [Nat.testBit_and]
  have e : (18446744073709551615 - 2 ^ j) = 2 ^ 64 - (2 ^ j + 1) := by omega
  rw [e, Nat.testBit_two_pow_sub_succ (by have := pow_lt64 j hj; omega), Nat.testBit_two_pow]
  by_cases h : k < 64
  · by_cases e : j = k
    · simp [e]
    · have : k ≠ j := fun c => e c.symm
      simp [h, e, this]
  · have : x.testBit k = false := Nat.testBit_lt_two_pow (Nat.lt_of_lt_of_le hx (Nat.pow_le_pow_right (n := 2) (by omega) (by omega : 64 ≤ k)))
    rw [this]
    simp
theorem clw_run (x j : Nat) (hx : x < 18446744073709551616) (h : j < 64) : bits .andNot .u64 (x : Int) (2 ^ j) = (clw x j : Int) := by
  rw [pow_cast]
  exact u64_andNot_nat x (2 ^ j) hx (pow_lt64 j h)

/-- The words with element i taken out. -/
def clr (f : Nat → Nat) (i : Nat) : Nat → Nat := upd f (i / 64) (clw (f (i / 64)) (i % 64))
theorem mem_clr {f : Nat → Nat} (hf : Fit64 f) (i j : Nat) : mem (clr f i) j = (mem f j && decide (j ≠ i)) := by
  unfold mem clr
  by_cases e : j / 64 = i / 64
  · rw [e, upd_same, clw_bit _ _ _ (hf _) (by omega)]
    congr 1
    rw [decide_eq_decide]
    omega
  · rw [upd_other _ _ _ _ e]
    have : j ≠ i := fun c => e (by rw [c])
    simp [this]
theorem clr_fit {f : Nat → Nat} (hf : Fit64 f) (i : Nat) : Fit64 (clr f i) := fun j => by
  unfold clr upd
  split
  · exact clw_lt _ _ (hf _)
  · exact hf j
theorem clr_zero {f : Nat → Nat} {n : Nat} (hz : ∀ i, n ≤ i → f i = 0) (i : Nat) : ∀ j, n ≤ j → clr f i j = 0 := fun j hj => by
  unfold clr upd
  split
  · rename_i e
    unfold clw
    rw [← e, hz j hj, Nat.zero_and]
  · exact hz j hj
theorem tl_zeros {f : Nat → Nat} {n : Nat} (hz : ∀ i, n ≤ i → f i = 0) : ∀ i, tl f n ≤ i → f i = 0 := fun i hi => by
  by_cases h : i < n
  · exact tl_zero f n i hi h
  · exact hz i (by omega)

/-- 'b.words = b.words[:m]', the words behind being 0. -/
theorem bts_cut {w : World} {base p n g cap m : Nat} {f : Nat → Nat} (h : Bts w base p (.slice (some ⟨g, 0, none⟩) n cap) n f) (hm : m ≤ n) (hz : ∀ i, m ≤ i → f i = 0) :
    Bts (w.setCell ⟨p, 0, none⟩ (.slice (some ⟨g, 0, none⟩) m cap)) base p (.slice (some ⟨g, 0, none⟩) m cap) m f ∧
      Touch w (w.setCell ⟨p, 0, none⟩ (.slice (some ⟨g, 0, none⟩) m cap)) p (.slice (some ⟨g, 0, none⟩) n cap) (.slice (some ⟨g, 0, none⟩) m cap) := by
  have hgp : g ≠ p := fun c => h.ne (by rw [c]; rfl)
  refine ⟨⟨?_, h.ge, (h.own.less hm).setOther (by simpa [Value.ownBlock] using hgp) _, hz, h.fit⟩, ⟨rfl, rfl, rfl, by simp [World.setCell], fun b hb hbp hbv => ?_, .inl rfl⟩⟩
  · have := heap_setCell_same w p 0 #[.slice (some ⟨g, 0, none⟩) n cap] 27 (.slice (some ⟨g, 0, none⟩) m cap) h.box
    simpa using this
  · exact Below.heap_setCell _ _ _ _ hbp

set_option maxHeartbeats 1000000 in
theorem clear_out {p base : Nat} {v : Value} {n : Nat} {f : Nat → Nat} {i : Int} {w : World} (hb : Bts w base p v n f) (hi : i ≤ 9223372036854775807) (hr : memI f i = false) :
    Calls Ycum.prog 23 #[.pointer (some ⟨p, 0, none⟩), .int .i64 i] w fun e w' => e = .returned (.bool false) ∧ w' = w := by
  have CH : Hid _ := has_eq hb hi hr
  clear hb hr
  go_enter Ycum.func23, Ycum.ntmps23
  go_wp2_with fail
  refine Calls.mono CH.out ?_
  rintro e w1 ⟨rfl, rfl⟩
  go_wp2_with fail
  go_ret
  exact ⟨rfl, rfl⟩

set_option maxHeartbeats 1000000 in
theorem clear_in {p base : Nat} {v : Value} {n : Nat} {f : Nat → Nat} {i : Nat} {w : World} (hb : Bts w base p v n f) (hn : n ≤ 1048576) (hr : mem f i = true) :
    Calls Ycum.prog 23 #[.pointer (some ⟨p, 0, none⟩), .int .i64 i] w fun e w' => e = .returned (.bool true) ∧ ∃ v', Bts w' base p v' (tl (clr f i) n) (clr f i) ∧ Touch w w' p v v' := by
  have hlt : i / 64 < n := by
    apply Nat.lt_of_not_le
    intro c
    unfold mem at hr
    rw [hb.zero _ c, Nat.zero_testBit] at hr
    cases hr
  have CH : Hid _ := has_eq hb (i := (i : Int)) (by omega) (r := true) (by rw [memI_nat]; exact hr)
  clear hr
  obtain ⟨g, cap, rfl, hnc, hcm⟩ : ∃ g cap, v = .slice (some ⟨g, 0, none⟩) n cap ∧ n ≤ cap ∧ cap ≤ maxLen := by
    rcases hb.own.form with ⟨_, h0⟩ | ⟨g, c, hv, _, _, h1, h2⟩
    · omega
    · exact ⟨g, c, hv, h1, h2⟩
  have hcell := hb.cell
  have hfro := hb.frozen
  have c2 := hb.own.cell (i / 64) (by omega)
  have f2 := hb.own.frozen (i / 64)
  have hor := clw_run (f (i / 64)) (i % 64) (hb.fit _) (by omega)
  have hwp := wrap_pow' (i % 64) (by omega)
  have hcl := clw_lt (f (i / 64)) (i % 64) (hb.fit _)
  obtain ⟨b3, t3⟩ := bts_store hb (i / 64) (clw (f (i / 64)) (i % 64)) (by omega) hcl
  have hz3 := tl_zeros b3.zero
  obtain ⟨b4, t4⟩ := bts_cut b3 (tl_le _ n) hz3
  have CT : Hid _ := trim_any (some ⟨g, 0, none⟩) n cap (upd f (i / 64) (clw (f (i / 64)) (i % 64))) _ b3.own.reads hnc hcm (fun h => by cases h)
  have hcell3 := b3.cell
  have hfro3 := b3.frozen
  have B4 : Hid (Bts _ _ _ _ _ _) := b4
  have T4 : Hid (Touch _ _ _ _ _) := t3.trans t4
  clear b3 t3 b4 t4 hb hz3
  have HQ : Hid (upd f (i / 64) (clw (f (i / 64)) (i % 64)) = clr f i) := rfl
  unfold maxLen at hcm
  generalize f (i / 64) = x at *
  generalize clw x (i % 64) = y at *
  go_enter Ycum.func23, Ycum.ntmps23
  go_wp2_with fail
  refine Calls.mono CH.out ?_
  rintro e w1 ⟨rfl, rfl⟩
  go_wp2_with fail
  refine Calls.mono CT.out ?_
  rintro e w2 ⟨rfl, rfl⟩
  go_wp2_with fail
  go_ret
  exact ⟨rfl, _, by rw [← HQ.out]; exact B4.out, T4.out⟩

end Go.Proofs.Ymbrcu
