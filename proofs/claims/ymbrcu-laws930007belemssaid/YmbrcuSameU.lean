/-
  THE WALKS OF THE HELPERS THAT COMPARE WORDS (bsame).
-/
import Derived.Test.YmbrcuEqual

namespace Go.Proofs.Ymbrcu
open Go.RowKit
set_option linter.unusedVariables false

set_option maxRecDepth 100000 in
set_option maxHeartbeats 1000000 in
theorem bsame_any (a : Option Addr) (n cap : Nat) (f : Nat → Nat) (a' : Option Addr) (m cap' : Nat) (g : Nat → Nat) (w : World)
    (hf : Reads .u64 w a n f) (hg : Reads .u64 w a' m g) (hn : n ≤ 1048576) :
    Calls Ycum.prog 25 #[.slice a n cap, .slice a' m cap'] w fun e w' => e = .returned (.bool (eqB n f m g)) ∧ Still w w' := by
  have HF : Hid (Reads .u64 w a n f) := hf
  have HG : Hid (Reads .u64 w a' m g) := hg
  clear hf hg
  by_cases hnm : n = m
  · subst hnm
    go_enter Ycum.func25, Ycum.ntmps25
    go_wp2_with fail
    go_loopw [5] (fun t wr => ∃ k : Nat, k ≤ n ∧ (∀ i, i < k → f i = g i) ∧ t = .int .i64 k ∧ Still w wr) (fun t _ => n - (intOf t).toNat)
    case atStart => exact ⟨0, by omega, fun i hi => by omega, rfl, Still.refl _⟩
    case round =>
      obtain ⟨k, hk, hs, rfl, hst⟩ := hrel
      have HS : Hid (∀ i, i < k → f i = g i) := hs
      have HST : Hid (Still w wr) := hst
      clear hs hst
      by_cases hlt : k < n
      · obtain ⟨b, off, rfl, hc0⟩ := HF.out k hlt
        obtain ⟨b', off', rfl, hc1⟩ := HG.out k hlt
        have c0 : wr.cell? ⟨b, off + k, none⟩ = some (.int .u64 (f k)) := (HST.out.cell _).trans hc0
        have c1 : wr.cell? ⟨b', off' + k, none⟩ = some (.int .u64 (g k)) := (HST.out.cell _).trans hc1
        have HX : Hid (f k ≠ g k → eqB n f n g = false) := fun h => eqB_diff hlt h
        have HY : Hid (f k = g k → ∀ i, i < k + 1 → f i = g i) := fun h i hi => by
          rcases Nat.lt_or_ge i k with c | c
          · exact HS.out i c
          · rw [show i = k by omega]; exact h
        have b1 : (0 : Int) ≤ (k : Int) := by omega
        have b2 : (k : Int) < (n : Int) := by omega
        clear hc0 hc1
        generalize f k = x at *
        generalize g k = y at *
        by_cases hxy : x = y
        · subst hxy
          have HY2 : Hid (∀ i, i < k + 1 → f i = g i) := HY.out rfl
          clear HX HY
          go_wp2_with fail
          go_quiet (fail)
          go_wp2_with fail
          go_roundw
          case rel => exact ⟨k + 1, by omega, HY2.out, by go_num, HST.out.drewN _⟩
          case measure => simp [intOf]; omega
        · have h1 : ((x : Int) != (y : Int)) = true := by rw [bne_iff_ne]; omega
          go_wp2_with fail
          go_quiet (fail)
          go_wp2_with fail
          go_ret
          exact ⟨ret_bool (HX.out hxy).symm, HST.out.drewN _⟩
      · obtain rfl : k = n := by omega
        go_wp2_with fail
        go_ret
        exact ⟨ret_bool (eqB_same rfl HS.out).symm, HST.out⟩
  · have h1 : ((n : Int) != (m : Int)) = true := by rw [bne_iff_ne]; omega
    go_enter Ycum.func25, Ycum.ntmps25
    go_wp2_with fail
    go_ret
    exact ⟨ret_bool (eqB_len hnm).symm, Still.refl _⟩

theorem bsame_eq {a : Option Addr} {n cap : Nat} {f : Nat → Nat} {a' : Option Addr} {m cap' : Nat} {g : Nat → Nat} {w : World} (hf : Reads .u64 w a n f) (hg : Reads .u64 w a' m g) (hn : n ≤ 1048576) {r : Bool} (e : eqB n f m g = r) :
    Calls Ycum.prog 25 #[.slice a n cap, .slice a' m cap'] w fun e w' => e = .returned (.bool r) ∧ Still w w' := e ▸ bsame_any a n cap f a' m cap' g w hf hg hn

end Go.Proofs.Ymbrcu
