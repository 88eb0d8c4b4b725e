/-
  THE WALK OF (*Bits).Equal: as many words, and the same words.
-/
import Derived.Test.YmbrcuOwn
import Derived.Deep.QuietTactic
import Derived.BigQuiet
namespace Go.Proofs.Ymbrcu
open Go.RowKit
set_option linter.unusedVariables false

/-- The answer of Equal. -/
def eqB (n : Nat) (f : Nat → Nat) (m : Nat) (g : Nat → Nat) : Bool := decide (n = m) && (List.range n).all fun i => f i == g i

theorem eqB_iff {n m : Nat} {f g : Nat → Nat} : eqB n f m g = true ↔ n = m ∧ ∀ i, i < n → f i = g i := by simp [eqB]
theorem eqB_len {n m : Nat} {f g : Nat → Nat} (h : n ≠ m) : eqB n f m g = false := by simp [eqB, h]
theorem eqB_diff {n m : Nat} {f g : Nat → Nat} {i : Nat} (hi : i < n) (h : f i ≠ g i) : eqB n f m g = false := by
  rw [Bool.eq_false_iff]
  intro c
  exact h ((eqB_iff.1 c).2 i hi)
theorem eqB_same {n m : Nat} {f g : Nat → Nat} (h : n = m) (hk : ∀ i, i < n → f i = g i) : eqB n f m g = true := eqB_iff.2 ⟨h, hk⟩
theorem eqB_symm (n m : Nat) (f g : Nat → Nat) : eqB n f m g = eqB m g n f := by
  rw [Bool.eq_iff_iff, eqB_iff, eqB_iff]
  constructor
  · rintro ⟨rfl, h⟩
    exact ⟨rfl, fun i hi => (h i hi).symm⟩
  · rintro ⟨rfl, h⟩
    exact ⟨rfl, fun i hi => (h i hi).symm⟩

set_option maxHeartbeats 1000000 in
theorem equal_any (p q : Nat) (a : Option Addr) (n cap : Nat) (f : Nat → Nat) (a' : Option Addr) (m cap' : Nat) (g : Nat → Nat) (w : World)
    (hp : w.cell? ⟨p, 0, none⟩ = some (.slice a n cap)) (hq : w.cell? ⟨q, 0, none⟩ = some (.slice a' m cap')) (hf : Reads .u64 w a n f) (hg : Reads .u64 w a' m g) (hn : n ≤ maxLen) :
    Calls Ycum.prog 20 #[.pointer (some ⟨p, 0, none⟩), .pointer (some ⟨q, 0, none⟩)] w fun e w' => e = .returned (.bool (eqB n f m g)) ∧ Still w w' := by
  unfold maxLen at hn
  have HF : Hid (Reads .u64 w a n f) := hf
  have HG : Hid (Reads .u64 w a' m g) := hg
  clear hf hg
  by_cases hnm : n = m
  · subst hnm
    go_enter Ycum.func20, Ycum.ntmps20
    go_wp2_with fail
    go_quiet (fail)
    go_wp2_with fail
    go_loop [23] (fun t => ∃ k : Nat, k ≤ n ∧ (∀ i, i < k → f i = g i) ∧ t = .int .i64 k) (fun t => n - (intOf t).toNat)
    case atStart => exact ⟨0, by omega, fun i hi => by omega, rfl⟩
    case round =>
      obtain ⟨k, hk, hs, rfl⟩ := hrel
      have HS : Hid (∀ i, i < k → f i = g i) := hs
      clear hs
      by_cases hlt : k < n
      · obtain ⟨b, off, rfl, hc⟩ := HF.out k hlt
        obtain ⟨b', off', rfl, hc'⟩ := HG.out k hlt
        have HX : Hid (f k ≠ g k → eqB n f n g = false) := fun h => eqB_diff hlt h
        have HY : Hid (f k = g k → ∀ i, i < k + 1 → f i = g i) := fun h i hi => by
          rcases Nat.lt_or_ge i k with c | c
          · exact HS.out i c
          · rw [show i = k by omega]; exact h
        generalize f k = x at *
        generalize g k = y at *
        by_cases hxy : x = y
        · subst hxy
          go_wp2_with fail
          go_round
          case rel => exact ⟨k + 1, by omega, HY.out rfl, by go_num⟩
          case measure => simp [intOf]; omega
        · have h1 : ((x : Int) != (y : Int)) = true := by rw [bne_iff_ne]; omega
          go_wp2_with fail
          go_ret
          exact ⟨ret_bool (HX.out hxy).symm, (Still.refl _).drewN _⟩
      · obtain rfl : k = n := by omega
        go_wp2_with fail
        go_ret
        exact ⟨ret_bool (eqB_same rfl HS.out).symm, (Still.refl _).drewN _⟩
  · have h1 : ((n : Int) != (m : Int)) = true := by rw [bne_iff_ne]; omega
    go_enter Ycum.func20, Ycum.ntmps20
    go_wp2_with fail
    go_quiet (fail)
    go_wp2_with fail
    go_ret
    exact ⟨ret_bool (eqB_len hnm).symm, (Still.refl _).drewN _⟩

/-- The same, in whatever world that has only drawn since. -/
theorem equal_still {p q : Nat} {a : Option Addr} {n cap : Nat} {f : Nat → Nat} {a' : Option Addr} {m cap' : Nat} {g : Nat → Nat} {W : World} {r : Bool}
    (hp : W.cell? ⟨p, 0, none⟩ = some (.slice a n cap)) (hq : W.cell? ⟨q, 0, none⟩ = some (.slice a' m cap')) (hf : Reads .u64 W a n f) (hg : Reads .u64 W a' m g) (hn : n ≤ maxLen) (hr : eqB n f m g = r) :
    ∀ w, Still W w → Calls Ycum.prog 20 #[.pointer (some ⟨p, 0, none⟩), .pointer (some ⟨q, 0, none⟩)] w fun e w' => e = .returned (.bool r) ∧ Still W w' := by
  intro w hs
  subst hr
  exact Calls.mono (equal_any p q a n cap f a' m cap' g w ((hs.cell _).trans hp) ((hs.cell _).trans hq) (hs.reads hf) (hs.reads hg) hn) fun e w' h => ⟨h.1, hs.trans h.2⟩

end Go.Proofs.Ymbrcu
