/-
  THE WALKS OF THE HELPERS THAT COMPARE WORDS (eeq, gsame).
-/
import Derived.Test.YmbrcvEqual
import Derived.Test.YmbrcvSets
namespace Go.Proofs.Ymbrcv
open Go.RowKit
set_option linter.unusedVariables false

set_option maxRecDepth 100000 in
set_option maxHeartbeats 1000000 in
theorem eeq_any (a : Option Addr) (n cap : Nat) (f : Nat → Nat) (a' : Option Addr) (m cap' : Nat) (g : Nat → Nat) (w : World)
    (hf : Reads .u64 w a n f) (hg : Reads .u64 w a' m g) (hn : n ≤ 1048576) :
    Calls Ycvm.prog 17 #[.slice a n cap, .slice a' m cap'] w fun e w' => e = .returned (.bool (eqB n f m g)) ∧ Still w w' := by
  have HF : Hid (Reads .u64 w a n f) := hf
  have HG : Hid (Reads .u64 w a' m g) := hg
  clear hf hg
  by_cases hnm : n = m
  · subst hnm
    go_enter Ycvm.func17, Ycvm.ntmps17
    go_wp2_with fail
    go_loopw [5] (fun t wr => ∃ k : Nat, k ≤ n ∧ (∀ i, i < k → f i = g i) ∧ t = .int .i64 k ∧ Still w wr) (fun t _ => n - (intOf t).toNat)
    case atStart => exact ⟨0, by omega, fun i hi => by omega, rfl, Still.refl _⟩
    case round =>
      obtain ⟨k, hk, hs, rfl, hst⟩ := hrel
      have HS : Hid (∀ i, i < k → f i = g i) := hs
      have HST : Hid (Still w wr) := hst
      clear hs hst
      by_cases hlt : k < n
      · obtain ⟨b, off, rfl, hc0⟩ := HF.out k hlt
        obtain ⟨b', off', rfl, hc1⟩ := HG.out k hlt
        have c0 : wr.cell? ⟨b, off + k, none⟩ = some (.int .u64 (f k)) := (HST.out.cell _).trans hc0
        have c1 : wr.cell? ⟨b', off' + k, none⟩ = some (.int .u64 (g k)) := (HST.out.cell _).trans hc1
        have HX : Hid (f k ≠ g k → eqB n f n g = false) := fun h => eqB_diff hlt h
        have HY : Hid (f k = g k → ∀ i, i < k + 1 → f i = g i) := fun h i hi => by
          rcases Nat.lt_or_ge i k with c | c
          · exact HS.out i c
          · rw [show i = k by omega]; exact h
        have b1 : (0 : Int) ≤ (k : Int) := by omega
        have b2 : (k : Int) < (n : Int) := by omega
        clear hc0 hc1
        generalize f k = x at *
        generalize g k = y at *
        by_cases hxy : x = y
        · subst hxy
          have HY2 : Hid (∀ i, i < k + 1 → f i = g i) := HY.out rfl
          clear HX HY
          go_wp2_with fail
          go_quiet (fail)
          go_wp2_with fail
          go_roundw
          case rel => exact ⟨k + 1, by omega, HY2.out, by go_num, HST.out.drewN _⟩
          case measure => simp [intOf]; omega
        · have h1 : ((x : Int) != (y : Int)) = true := by rw [bne_iff_ne]; omega
          go_wp2_with fail
          go_quiet (fail)
          go_wp2_with fail
          go_ret
          exact ⟨ret_bool (HX.out hxy).symm, HST.out.drewN _⟩
      · obtain rfl : k = n := by omega
        go_wp2_with fail
        go_ret
        exact ⟨ret_bool (eqB_same rfl HS.out).symm, HST.out⟩
  · have h1 : ((n : Int) != (m : Int)) = true := by rw [bne_iff_ne]; omega
    go_enter Ycvm.func17, Ycvm.ntmps17
    go_wp2_with fail
    go_ret
    exact ⟨ret_bool (eqB_len hnm).symm, Still.refl _⟩

theorem eeq_eq {a : Option Addr} {n cap : Nat} {f : Nat → Nat} {a' : Option Addr} {m cap' : Nat} {g : Nat → Nat} {w : World} (hf : Reads .u64 w a n f) (hg : Reads .u64 w a' m g) (hn : n ≤ 1048576) {r : Bool} (e : eqB n f m g = r) :
    Calls Ycvm.prog 17 #[.slice a n cap, .slice a' m cap'] w fun e w' => e = .returned (.bool r) ∧ Still w w' := e ▸ eeq_any a n cap f a' m cap' g w hf hg hn

set_option maxRecDepth 100000 in
set_option maxHeartbeats 1000000 in
theorem gsame_any (a : Option Addr) (n cap : Nat) (f : Nat → Nat) (a' : Option Addr) (m cap' : Nat) (g : Nat → Nat) (w : World)
    (hf : Reads .u64 w a n f) (hg : Reads .u64 w a' m g) (hn : n ≤ 1048576) :
    Calls Ycvm.prog 23 #[.slice a n cap, .slice a' m cap'] w fun e w' => e = .returned (.bool (eqB n f m g)) ∧ Still w w' := by
  have HF : Hid (Reads .u64 w a n f) := hf
  have HG : Hid (Reads .u64 w a' m g) := hg
  clear hf hg
  by_cases hnm : n = m
  · subst hnm
    go_enter Ycvm.func23, Ycvm.ntmps23
    go_wp2_with fail
    go_loopw [5] (fun t wr => ∃ k : Nat, k ≤ n ∧ (∀ i, i < k → f i = g i) ∧ t = .int .i64 k ∧ Still w wr) (fun t _ => n - (intOf t).toNat)
    case atStart => exact ⟨0, by omega, fun i hi => by omega, rfl, Still.refl _⟩
    case round =>
      obtain ⟨k, hk, hs, rfl, hst⟩ := hrel
      have HS : Hid (∀ i, i < k → f i = g i) := hs
      have HST : Hid (Still w wr) := hst
      clear hs hst
      by_cases hlt : k < n
      · obtain ⟨b, off, rfl, hc0⟩ := HF.out k hlt
        obtain ⟨b', off', rfl, hc1⟩ := HG.out k hlt
        have c0 : wr.cell? ⟨b, off + k, none⟩ = some (.int .u64 (f k)) := (HST.out.cell _).trans hc0
        have c1 : wr.cell? ⟨b', off' + k, none⟩ = some (.int .u64 (g k)) := (HST.out.cell _).trans hc1
        have HX : Hid (f k ≠ g k → eqB n f n g = false) := fun h => eqB_diff hlt h
        have HY : Hid (f k = g k → ∀ i, i < k + 1 → f i = g i) := fun h i hi => by
          rcases Nat.lt_or_ge i k with c | c
          · exact HS.out i c
          · rw [show i = k by omega]; exact h
        have b1 : (0 : Int) ≤ (k : Int) := by omega
        have b2 : (k : Int) < (n : Int) := by omega
        clear hc0 hc1
        generalize f k = x at *
        generalize g k = y at *
        by_cases hxy : x = y
        · subst hxy
          have HY2 : Hid (∀ i, i < k + 1 → f i = g i) := HY.out rfl
          clear HX HY
          go_wp2_with fail
          go_quiet (fail)
          go_wp2_with fail
          go_roundw
          case rel => exact ⟨k + 1, by omega, HY2.out, by go_num, HST.out.drewN _⟩
          case measure => simp [intOf]; omega
        · have h1 : ((x : Int) != (y : Int)) = true := by rw [bne_iff_ne]; omega
          go_wp2_with fail
          go_quiet (fail)
          go_wp2_with fail
          go_ret
          exact ⟨ret_bool (HX.out hxy).symm, HST.out.drewN _⟩
      · obtain rfl : k = n := by omega
        go_wp2_with fail
        go_ret
        exact ⟨ret_bool (eqB_same rfl HS.out).symm, HST.out⟩
  · have h1 : ((n : Int) != (m : Int)) = true := by rw [bne_iff_ne]; omega
    go_enter Ycvm.func23, Ycvm.ntmps23
    go_wp2_with fail
    go_ret
    exact ⟨ret_bool (eqB_len hnm).symm, Still.refl _⟩

theorem gsame_eq {a : Option Addr} {n cap : Nat} {f : Nat → Nat} {a' : Option Addr} {m cap' : Nat} {g : Nat → Nat} {w : World} (hf : Reads .u64 w a n f) (hg : Reads .u64 w a' m g) (hn : n ≤ 1048576) {r : Bool} (e : eqB n f m g = r) :
    Calls Ycvm.prog 23 #[.slice a n cap, .slice a' m cap'] w fun e w' => e = .returned (.bool r) ∧ Still w w' := e ▸ gsame_any a n cap f a' m cap' g w hf hg hn

set_option maxHeartbeats 1000000 in
theorem ehas_any (p : Nat) (a : Option Addr) (n cap : Nat) (f : Nat → Nat) (i : Int) (w : World) (hp : w.cell? ⟨p, 0, none⟩ = some (.slice a n cap)) (hr : Reads .u64 w a n f) (hz : ∀ j, n ≤ j → f j = 0) (hf : Fit64 f)
    (hn : n ≤ maxLen) (hi : i ≤ 9223372036854775807) :
    Calls Ycvm.prog 16 #[.pointer (some ⟨p, 0, none⟩), .int .i64 i] w fun e w' => e = .returned (.bool (memI f i)) ∧ w' = w := by
  unfold maxLen at hn
  have HR : Hid (Reads .u64 w a n f) := hr
  have HZ : Hid (∀ j, n ≤ j → f j = 0) := hz
  have HF : Hid (Fit64 f) := hf
  clear hr hz hf
  by_cases h0 : i < 0
  · have HM : Hid (memI f i = false) := if_pos h0
    go_enter Ycvm.func16, Ycvm.ntmps16
    go_wp2_with fail
    go_ret
    exact ⟨ret_bool HM.out.symm, rfl⟩
  · obtain ⟨j, rfl⟩ := Int.eq_ofNat_of_zero_le (Int.not_lt.1 h0)
    have HM : Hid (memI f (j : Int) = (f (j / 64)).testBit (j % 64)) := by
      unfold Hid memI mem
      rw [if_neg h0, Int.toNat_natCast]
    by_cases hlt : j / 64 < n
    · obtain ⟨b, off, rfl, hc⟩ := HR.out (j / 64) hlt
      have hb := bit_at (f (j / 64)) (j % 64) (HF.out _)
      have hq := bit_beq ((f (j / 64)).testBit (j % 64))
      generalize (f (j / 64)).testBit (j % 64) = t at *
      generalize f (j / 64) = x at *
      go_enter Ycvm.func16, Ycvm.ntmps16
      go_wp2_with fail
      go_ret
      exact ⟨ret_bool HM.out.symm, rfl⟩
    · have HM2 : Hid (memI f (j : Int) = false) := by
        unfold Hid
        rw [HM.out, HZ.out (j / 64) (by omega)]; simp
      go_enter Ycvm.func16, Ycvm.ntmps16
      go_wp2_with fail
      go_ret
      exact ⟨ret_bool HM2.out.symm, rfl⟩

theorem ehas_eq {p base : Nat} {v : Value} {n : Nat} {f : Nat → Nat} {i : Int} {w : World} (hb : Bts w base p v n f) (hi : i ≤ 9223372036854775807) {r : Bool} (hr : memI f i = r) :
    Calls Ycvm.prog 16 #[.pointer (some ⟨p, 0, none⟩), .int .i64 i] w fun e w' => e = .returned (.bool r) ∧ w' = w := by
  have hc := hb.cell
  have hz := hb.zero
  have hf := hb.fit
  obtain ⟨a, cap, rfl, hx, h1, h2, _⟩ := hb.slice
  exact hr ▸ ehas_any p a n cap f i w hc hx hz hf (Nat.le_trans h1 h2) hi

end Go.Proofs.Ymbrcv
