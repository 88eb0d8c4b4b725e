/-
  THE WALK OF LawS930007EMember.
-/
import Derived.Test.YmbrcvFrom
import Derived.Test.YmbrcvSameV
namespace Go.Proofs.Ymbrcv.ELaws
open Go.RowKit Go.Proofs.Ymbrcv
set_option linter.unusedVariables false

/-- Are the first k in range? -/
def allR (g : Nat → Int) (k : Nat) : Bool := (List.range k).all fun i => inR (g i)
theorem allR_succ (g : Nat → Int) (k : Nat) : allR g (k + 1) = (allR g k && inR (g k)) := by
  unfold allR
  rw [List.range_succ, List.all_append]
  simp
theorem allR_iff {g : Nat → Int} {k : Nat} : allR g k = true ↔ ∀ i, i < k → inR (g i) = true := by simp [allR]
/-- Does q occur among the first k? -/
def occI (g : Nat → Int) (k : Nat) (q : Int) : Bool := (List.range k).any fun i => decide (g i = q)
theorem occI_succ (g : Nat → Int) (k : Nat) (q : Int) : occI g (k + 1) q = (occI g k q || decide (g k = q)) := by
  unfold occI
  rw [List.range_succ, List.any_append]
  simp
theorem occI_iff {g : Nat → Int} {k : Nat} {q : Int} : occI g k q = true ↔ ∃ i, i < k ∧ g i = q := by simp [occI]
theorem memI_occI {g : Nat → Int} {k : Nat} (h : ∀ i, i < k → inR (g i) = true) (q : Int) : memI (fe g k) q = occI g k q := by
  rw [Bool.eq_iff_iff, memI_fe, occI_iff]
  constructor
  · rintro ⟨_, i, hi, e⟩; exact ⟨i, hi, e⟩
  · rintro ⟨i, hi, e⟩; exact ⟨by rw [← e]; exact h i hi, i, hi, e⟩

theorem tri' (x : Int) : (inR x = true ∧ decide (x < 0) = false ∧ decide (1048575 < x) = false) ∨ (inR x = false ∧ decide (x < 0) = false ∧ decide (1048575 < x) = true) ∨ (inR x = false ∧ decide (x < 0) = true) := by
  unfold inR
  by_cases h1 : x < 0
  · right; right
    exact ⟨by simp; omega, decide_eq_true h1⟩
  · by_cases h2 : 1048575 < x
    · right; left
      exact ⟨by simp; omega, decide_eq_false h1, decide_eq_true h2⟩
    · left
      exact ⟨by simp; omega, decide_eq_false h1, decide_eq_false h2⟩

set_option maxRecDepth 100000 in
set_option maxHeartbeats 1000000 in
theorem emember (a : Option Addr) (n cap : Nat) (g : Nat → Int) (q : Int) (w : World) (hr : ReadsI w a n g) (hn : n ≤ cap) (hm : cap ≤ maxLen)
    (h1 : -9223372036854775808 ≤ q) (h2 : q ≤ 9223372036854775807) :
    Calls Ycvm.prog 3 #[.slice a n cap, .int .i64 q] w fun e w' => e = .returned (.bool true) ∧ Below w.heap.size w w' := by
  unfold maxLen at hm
  by_cases hbig : 1024 < n
  · clear hr
    go_enter Ycvm.func3, Ycvm.ntmps3
    go_wp2_with fail
    go_ret
    exact ⟨rfl, Below.refl _ _⟩
  have d0 : decide ((1024 : Int) < (n : Int)) = false := decide_eq_false (by omega)
  have HR : Hid (ReadsI w a n g) := hr
  have CF : Hid _ := from_any a n cap g w hr (by unfold maxLen; omega)
  clear hr
  go_enter Ycvm.func3, Ycvm.ntmps3
  go_wp2_with fail
  go_loop [5, 6, 7] (fun r o t => ∃ k : Nat, k ≤ n ∧ t = .int .i64 k ∧ r = .bool (allR g k) ∧ o = .bool (occI g k q)) (fun _ _ t => n - (intOf t).toNat)
  case atStart => exact ⟨0, by omega, rfl, rfl, rfl⟩
  case round =>
    obtain ⟨k, hk, rfl, rfl, rfl⟩ := hrel
    by_cases hlt : k < n
    · obtain ⟨b, off, rfl, hc⟩ := HR.out k hlt
      have HA : Kept (allR g (k + 1) = (allR g k && inR (g k))) := Kept.mk (allR_succ g k)
      have HO : Kept (occI g (k + 1) q = (occI g k q || decide (g k = q))) := Kept.mk (occI_succ g k q)
      have hx := tri' (g k)
      have hqq : (decide (g k = q) = true ∧ (g k == q) = true) ∨ (decide (g k = q) = false ∧ (g k == q) = false) := by
        by_cases e : g k = q
        · left; simp [e]
        · right; simp [e]
      generalize allR g k = ra at *
      generalize occI g k q = oc at *
      generalize g k = x at *
      rcases hx with ⟨hR, d1, d2⟩ | ⟨hR, d1, d2⟩ | ⟨hR, d1⟩
      all_goals
        rw [hR] at HA
        clear hR
        rcases hqq with ⟨e1, e2⟩ | ⟨e1, e2⟩
        all_goals
          rw [e1] at HO
          clear e1
          go_wp2_with fail
          go_round
          case rel => exact ⟨k + 1, by omega, by go_num, by rw [HA.out]; simp, by rw [HO.out]; simp⟩
          case measure => simp [intOf]; omega
    · obtain rfl : k = n := by omega
      have HM : Kept ((∀ i, i < k → inR (g i) = true) → memI (fe g k) q = occI g k q) := Kept.mk (fun h => memI_occI h q)
      have HA : Kept (allR g k = true ↔ ∀ i, i < k → inR (g i) = true) := Kept.mk allR_iff
      generalize allR g k = ra at *
      generalize occI g k q = oc at *
      go_wp2_with fail
      refine Calls.mono CF.out ?_
      rintro e w5 ⟨p, v, bel5, ⟨rfl, hal, b5⟩ | ⟨rfl, hno, b5⟩⟩
      · have hra : ra = true := HA.out.2 hal
        subst hra
        have HM2 : Kept (memI (fe g k) q = oc) := Kept.mk (HM.out hal)
        have B5 : Hid (Bts _ _ _ _ _ _) := b5
        have W5 : Hid (Below _ _ _) := bel5
        clear hal b5 bel5 HA HM
        go_wp2_with fail
        refine Calls.mono (ehas_eq B5.out h2 HM2.out) ?_
        rintro e w6 ⟨rfl, rfl⟩
        go_wp2_with fail
        go_ret
        exact ⟨by simp, W5.out⟩
      · have hra : ra = false := by
          obtain ⟨i, hi, hx⟩ := hno
          rw [Bool.eq_false_iff]
          intro c
          rw [HA.out.1 c i hi] at hx
          cases hx
        subst hra
        have W5 : Hid (Below _ _ _) := bel5
        have cb := b5.cell
        obtain ⟨a5, c5, rfl, _⟩ := b5.slice
        clear hno b5 bel5 HA HM
        go_wp2_with fail
        go_ret
        exact ⟨rfl, W5.out⟩
end Go.Proofs.Ymbrcv.ELaws
