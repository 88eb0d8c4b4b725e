/-
  PLAIN FACTS ON SETS OF WORDS; Set AND Has AT WHATEVER INTEGER; FromElems.
-/
import Derived.Test.YmbrcuSet
namespace Go.Proofs.Ymbrcu
open Go.RowKit
set_option linter.unusedVariables false

/-! ### Plain -/
/-- In range: 0 to MaxElem. -/
def inR (i : Int) : Bool := decide (0 ≤ i) && decide (i ≤ 1048575)
theorem inR_iff {i : Int} : inR i = true ↔ 0 ≤ i ∧ i ≤ 1048575 := by simp [inR]
theorem inR_no {i : Int} (h : inR i = false) : i < 0 ∨ 1048575 < i := by
  simp [inR] at h
  omega

theorem mem_setf (f : Nat → Nat) (i j : Nat) : mem (setf f i) j = (mem f j || decide (j = i)) := by
  unfold mem setf upd
  by_cases h : j / 64 = i / 64
  · rw [if_pos h, ← h, Nat.testBit_or, Nat.testBit_two_pow]
    congr 1
    rw [Bool.eq_iff_iff, decide_eq_true_iff, decide_eq_true_iff]
    omega
  · rw [if_neg h]
    have : j ≠ i := fun e => h (by rw [e])
    simp [this]

/-- The words with i set, where i is in range. -/
def setI (f : Nat → Nat) (i : Int) : Nat → Nat := if inR i = true then setf f i.toNat else f
/-- How many words then. -/
def setN (n : Nat) (i : Int) : Nat := if inR i = true then max n (i.toNat / 64 + 1) else n

theorem memI_neg (f : Nat → Nat) {i : Int} (h : i < 0) : memI f i = false := if_pos h
theorem memI_nat (f : Nat → Nat) (j : Nat) : memI f (j : Int) = mem f j := by
  unfold memI
  rw [if_neg (by omega), Int.toNat_natCast]

theorem mem_setI (f : Nat → Nat) (i : Int) (j : Nat) : mem (setI f i) j = (mem f j || (inR i && decide ((j : Int) = i))) := by
  unfold setI
  by_cases h : inR i = true
  · rw [if_pos h, mem_setf, h, Bool.true_and]
    congr 1
    rw [Bool.eq_iff_iff, decide_eq_true_iff, decide_eq_true_iff]
    have := inR_iff.1 h
    omega
  · rw [if_neg h]
    simp [h]

theorem memI_setI (f : Nat → Nat) (i j : Int) : memI (setI f i) j = (memI f j || (inR i && decide (j = i))) := by
  by_cases hj : j < 0
  · rw [memI_neg _ hj, memI_neg _ hj]
    by_cases h : inR i = true
    · have := inR_iff.1 h
      have e : j ≠ i := by omega
      simp [e]
    · simp [h]
  · obtain ⟨k, rfl⟩ := Int.eq_ofNat_of_zero_le (Int.not_lt.1 hj)
    show memI (setI f i) (k : Int) = (memI f (k : Int) || _)
    rw [memI_nat, memI_nat, mem_setI]

theorem setf_fit {f : Nat → Nat} (h : Fit64 f) (i : Nat) : Fit64 (setf f i) := fun j => by
  unfold setf upd
  split
  · exact or_pow_lt _ _ (h _) (by omega)
  · exact h j

theorem or_ne_zero_right (x j : Nat) : x ||| 2 ^ j ≠ 0 := fun e => by
  have h := congrArg (fun y => y.testBit j) e
  simp [Nat.testBit_or] at h
theorem or_ne_zero_left (x y : Nat) (h : x ≠ 0) : x ||| y ≠ 0 := fun e => h (by
  apply Nat.eq_of_testBit_eq
  intro i
  have h := congrArg (fun z => z.testBit i) e
  simp [Nat.testBit_or] at h
  simp [h.1])

/-- No zero word at the end. -/
def Trimmed (n : Nat) (f : Nat → Nat) : Prop := n = 0 ∨ f (n - 1) ≠ 0

theorem trimmed_setf {n : Nat} {f : Nat → Nat} (h : Trimmed n f) (i : Nat) : Trimmed (max n (i / 64 + 1)) (setf f i) := by
  right
  unfold setf upd
  by_cases c : n ≤ i / 64 + 1
  · have e : max n (i / 64 + 1) - 1 = i / 64 := by omega
    rw [e, if_pos rfl]
    exact or_ne_zero_right _ _
  · have e : max n (i / 64 + 1) = n := by omega
    rw [e, if_neg (by omega)]
    rcases h with h | h
    · omega
    · exact h

theorem trimmed_setI {n : Nat} {f : Nat → Nat} (h : Trimmed n f) (i : Int) : Trimmed (setN n i) (setI f i) := by
  unfold setN setI
  split
  · exact trimmed_setf h _
  · exact h

/-- Words are told by their members. -/
theorem words_ext {f g : Nat → Nat} (hf : Fit64 f) (hg : Fit64 g) (h : ∀ i, mem f i = mem g i) : f = g := by
  funext k
  apply Nat.eq_of_testBit_eq
  intro j
  rcases Nat.lt_or_ge j 64 with c | c
  · have := h (64 * k + j)
    unfold mem at this
    rw [show (64 * k + j) / 64 = k by omega, show (64 * k + j) % 64 = j by omega] at this
    exact this
  · have big : ∀ x : Nat, x < 18446744073709551616 → x.testBit j = false := fun x hx =>
      Nat.testBit_lt_two_pow (Nat.lt_of_lt_of_le (show x < 2 ^ 64 by omega) (Nat.pow_le_pow_right (by omega) c))
    rw [big _ (hf k), big _ (hg k)]

/-- Two trimmed lists of the same words have the same length. -/
theorem trimmed_len {n m : Nat} {f : Nat → Nat} (hn : Trimmed n f) (hm : Trimmed m f) (zn : ∀ i, n ≤ i → f i = 0) (zm : ∀ i, m ≤ i → f i = 0) : n = m := by
  rcases Nat.lt_trichotomy n m with c | c | c
  · rcases hm with h | h
    · omega
    · exact absurd (zn (m - 1) (by omega)) h
  · exact c
  · rcases hn with h | h
    · omega
    · exact absurd (zm (n - 1) (by omega)) h

/-! ### Set and Has -/
theorem set_any (p base : Nat) (v : Value) (n : Nat) (f : Nat → Nat) (i : Int) (w : World) (hb : Bts w base p v n f) (hn : n ≤ 1048576) (hz : base ≤ w.heap.size) :
    Calls Ycum.prog 17 #[.pointer (some ⟨p, 0, none⟩), .int .i64 i] w fun e w' => e = .returned (.bool (inR i)) ∧ ∃ v', Bts w' base p v' (setN n i) (setI f i) ∧ Touch w w' p v v' := by
  cases h : inR i with
  | true =>
    obtain ⟨h0, h1⟩ := inR_iff.1 h
    obtain ⟨j, rfl⟩ := Int.eq_ofNat_of_zero_le h0
    have e1 : setN n (j : Int) = max n (j / 64 + 1) := by unfold setN; rw [if_pos h, Int.toNat_natCast]
    have e2 : setI f (j : Int) = setf f j := by unfold setI; rw [if_pos h, Int.toNat_natCast]
    rw [e1, e2]
    exact set_in p base v n f j w hb (by omega) hn hz
  | false =>
    have e1 : setN n i = n := by unfold setN; rw [h, if_neg (by decide)]
    have e2 : setI f i = f := by unfold setI; rw [h, if_neg (by decide)]
    rw [e1, e2]
    refine (set_out p i w (inR_no h)).mono ?_
    rintro e w' ⟨rfl, rfl⟩
    exact ⟨rfl, v, hb, Touch.refl _ _ _⟩

theorem has_bts (p base : Nat) (v : Value) (n : Nat) (f : Nat → Nat) (i : Int) (w : World) (hb : Bts w base p v n f) (hi : i ≤ 9223372036854775807) :
    Calls Ycum.prog 19 #[.pointer (some ⟨p, 0, none⟩), .int .i64 i] w fun e w' => e = .returned (.bool (memI f i)) ∧ w' = w := by
  have hc := hb.cell
  have hz := hb.zero
  have hf := hb.fit
  obtain ⟨a, cap, rfl, hr, h1, h2, _⟩ := hb.slice
  exact has_any p a n cap f i w hc hr hz hf (Nat.le_trans h1 h2) hi

theorem has_eq {p base : Nat} {v : Value} {n : Nat} {f : Nat → Nat} {i : Int} {w : World} (hb : Bts w base p v n f) (hi : i ≤ 9223372036854775807) {r : Bool} (hr : memI f i = r) :
    Calls Ycum.prog 19 #[.pointer (some ⟨p, 0, none⟩), .int .i64 i] w fun e w' => e = .returned (.bool r) ∧ w' = w := hr ▸ has_bts p base v n f i w hb hi
theorem set_eq {p base : Nat} {v : Value} {n : Nat} {f : Nat → Nat} {i : Int} {w : World} (hb : Bts w base p v n f) (hn : n ≤ 1048576) (hz : base ≤ w.heap.size) {r : Bool} (hr : inR i = r) :
    Calls Ycum.prog 17 #[.pointer (some ⟨p, 0, none⟩), .int .i64 i] w fun e w' => e = .returned (.bool r) ∧ ∃ v', Bts w' base p v' (setN n i) (setI f i) ∧ Touch w w' p v v' := hr ▸ set_any p base v n f i w hb hn hz

theorem setN_le {n : Nat} (i : Int) {K : Nat} (h : n ≤ K) (hK : 16384 ≤ K) : setN n i ≤ K := by
  unfold setN
  split
  · rename_i e
    have := inR_iff.1 e
    omega
  · exact h

end Go.Proofs.Ymbrcu
