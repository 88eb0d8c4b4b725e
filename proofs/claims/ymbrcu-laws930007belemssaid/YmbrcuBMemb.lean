/-
  THE WALK OF LawS930007BMembers.
-/
import Derived.Test.YmbrcuBUndo
import Derived.Test.YmbrcuDWalk
import Derived.Deep.DeepCutAuto
namespace Go.Proofs.Ymbrcu.BLaws
open Go.RowKit Go.Proofs.Ymbrcu
set_option linter.unusedVariables false

/-- Clear, whichever way it goes, of a set without a zero word at its end. -/
theorem clear_any {p base : Nat} {v : Value} {n : Nat} {f : Nat → Nat} {i : Int} {w : World} (hb : Bts w base p v n f) (hn : n ≤ 1048576) (hi : i ≤ 9223372036854775807) (ht : Trimmed n f) {r : Bool} (hr : memI f i = r) :
    Calls Ycum.prog 23 #[.pointer (some ⟨p, 0, none⟩), .int .i64 i] w fun e w' => e = .returned (.bool r) ∧ ∃ v' M F, M ≤ n ∧ Trimmed M F ∧ (∀ j : Nat, mem F j = (mem f j && decide ((j : Int) ≠ i))) ∧ Bts w' base p v' M F ∧ Touch w w' p v v' := by
  cases r with
  | false =>
    refine (clear_out hb hi hr).mono ?_
    rintro e w' ⟨rfl, rfl⟩
    refine ⟨rfl, v, n, f, Nat.le_refl _, ht, fun j => ?_, hb, Touch.refl _ _ _⟩
    by_cases e : (j : Int) = i
    · rw [← memI_nat, e, hr]; rfl
    · simp [e]
  | true =>
    obtain ⟨x, rfl, hx⟩ := memI_pos hr
    refine (clear_in hb hn hx).mono ?_
    rintro e w' ⟨rfl, v', b, t⟩
    refine ⟨rfl, v', _, _, tl_le _ _, tl_tl, fun j => ?_, b, t⟩
    rw [mem_clr hb.fit]
    congr 1
    rw [decide_eq_decide]
    omega

/-- Was i met among the first q places? -/
def wv (f : Nat → Nat) (i : Int) (q : Int) : Bool := memI f i && decide (i < q)
theorem wv_hit (f : Nat → Nat) (i q : Int) (h : q = i) : wv f i (q + 1) = memI f i := by
  unfold wv
  rw [decide_eq_true (by omega), Bool.and_true]
theorem wv_miss (f : Nat → Nat) (i q : Int) (h : q ≠ i) : wv f i (q + 1) = wv f i q := by
  unfold wv
  congr 1
  rw [decide_eq_decide]
  omega
theorem wv_zero (f : Nat → Nat) (i : Int) : wv f i 0 = false := by
  unfold wv
  by_cases h : i < 0
  · rw [memI_neg f h]; rfl
  · rw [decide_eq_false h, Bool.and_false]
theorem wv_all {f : Nat → Nat} {n : Nat} (hz : ∀ i, n ≤ i → f i = 0) (i : Int) : wv f i ((64 : Int) * n) = memI f i := by
  unfold wv
  by_cases h : i < (64 : Int) * n
  · rw [decide_eq_true h, Bool.and_true]
  · rw [DLaws.memI_none hz (.inr (by omega)), Bool.false_and]
theorem bit_at_word (f : Nat → Nat) (k r : Nat) (hr : r < 64) : memI f ((64 : Int) * k + r) = ((((f k / 2 ^ r : Nat) : Int) % 2) == 1) := DLaws.memI_at f k r hr _ rfl
theorem memI_F {f F : Nat → Nat} {i : Int} (h : ∀ j : Nat, mem F j = (mem f j && decide ((j : Int) ≠ i))) (k r : Nat) : memI F ((64 : Int) * k + r) = (memI f ((64 : Int) * k + r) && decide ((64 : Int) * k + r ≠ i)) := by
  have e : ((64 : Int) * k + r) = ((64 * k + r : Nat) : Int) := by omega
  rw [e, memI_nat, memI_nat, h]

set_option maxRecDepth 100000 in
set_option maxHeartbeats 2000000 in
theorem bmembers (a : Option Addr) (n cap : Nat) (f : Nat → Nat) (i : Int) (wild : Bool) (w : World) (hr : Reads .u64 w a n f) (hf : Fit64 f) (hzf : ∀ i, n ≤ i → f i = 0) (hn : n ≤ cap) (hm : cap ≤ maxLen)
    (h1 : -9223372036854775808 ≤ i) (h2 : i ≤ 9223372036854775807) :
    Calls Ycum.prog 6 #[.slice a n cap, .int .i64 i, .bool wild] w fun e w' => e = .returned (.bool true) ∧ Below w.heap.size w w' := by
  unfold maxLen at hm
  by_cases hbig : 1024 < n
  · go_enter Ycum.func6, Ycum.ntmps6
    go_wp2_with fail
    go_ret
    exact ⟨rfl, Below.refl _ _⟩
  have HR : Hid (Reads .u64 w a n f) := hr
  have HF : Hid (Fit64 f) := hf
  have HZ : Hid (∀ i, n ≤ i → f i = 0) := hzf
  clear hr hf hzf
  have TK : Hid (Trimmed (tl f n) f) := tl_tl
  have hKn := tl_le f n
  obtain ⟨K, hK⟩ : ∃ K, tl f n = K := ⟨_, rfl⟩
  have HK : Hid (tl f n = K) := hK
  rw [hK] at TK hKn
  clear hK
  go_enter Ycum.func6, Ycum.ntmps6
  go_wp2_with fail
  refine Calls.mono (bmake_eq HR.out HF.out HZ.out (by omega) HK.out) ?_
  rintro e w1 ⟨p, v, rfl, b1, l1⟩
  have B1 : Hid (Bts w1 _ _ _ _ _) := b1
  have L1 : Hid (Below w.heap.size w w1) := l1
  have hz1 : w.heap.size ≤ w1.heap.size := l1.size
  have cb := b1.cell
  obtain ⟨a1, k1, rfl, _, _, _, _⟩ := b1.slice
  clear b1 l1
  go_wp2_with fail
  refine Calls.mono (bplace_any i wild K w1 h1 h2 (by omega)) ?_
  rintro e w2 ⟨j, rfl, j1, j2, rfl⟩
  clear h1 h2
  have WA : Hid (wv f j ((64 : Int) * K) = memI f j) := wv_all B1.out.zero j
  obtain ⟨G, hG⟩ : ∃ G, memI f j = G := ⟨_, rfl⟩
  have MG : Hid (memI f j = G) := hG
  rw [hG] at WA
  clear hG
  go_wp2_with fail
  refine Calls.mono (clear_any B1.out (by omega) j2 TK.out MG.out) ?_
  rintro e w3 ⟨rfl, v3, M, F, hM, ht, hme, b3, t3⟩
  have L3 : Hid (Below w.heap.size w w3) := L1.out.trans (t3.below B1.out (Nat.le_refl _) hz1)
  have HME : Hid (∀ k r : Nat, memI F ((64 : Int) * k + r) = (memI f ((64 : Int) * k + r) && decide ((64 : Int) * k + r ≠ j))) := memI_F hme
  have HL : Kept (0 < M → F (M - 1) ≠ 0) := Kept.mk (fun h => by rcases ht with h' | h'; omega; exact h')
  have R3 : Hid (Reads .u64 w3 a n f) := HR.out.below L3.out
  have cb3 := b3.cell
  obtain ⟨a3, k3, rfl, r3, _, _, _⟩ := b3.slice
  have B3 : Hid (Bts w3 _ _ _ _ _) := b3
  have RF : Hid (Reads .u64 w3 a3 M F) := r3
  clear b3 t3 hme ht r3 B1 L1 cb HR
  have d3 : decide ((K : Int) < (M : Int)) = false := decide_eq_false (by omega)
  go_upto_region 9 with fail
  go_cut [60] (fun t wc => t = .bool false ∧ Still w3 wc)
  case first =>
    rcases Nat.eq_zero_or_pos M with hM0 | hM0
    · have d5 : decide ((0 : Int) < (M : Int)) = false := decide_eq_false (by omega)
      go_quiet (fail)
      go_wp2_with fail
      go_meet
      case rel => exact ⟨rfl, (Still.refl _).drewN _⟩
    · obtain ⟨bu, ou, rfl, c0⟩ := RF.out (M - 1) (by omega)
      have hne : ((F (M - 1) : Int) == 0) = false := beq_eq_false_iff_ne.2 (by have := HL.out hM0; omega)
      have d5 : decide ((0 : Int) < (M : Int)) = true := decide_eq_true (by omega)
      generalize F (M - 1) = y at *
      go_quiet (fail)
      go_wp2_with fail
      go_meet
      case rel => exact ⟨rfl, (Still.refl _).drewN _⟩
  case rest =>
    obtain ⟨rfl, hst⟩ := hcut
    clear HL
    have L4 : Hid (Below w.heap.size w wc) := L3.out.trans hst.below
    have R4 : Hid (Reads .u64 wc a n f) := hst.reads R3.out
    have B4 : Hid (Bts wc _ _ _ _ _) := B3.out.still hst
    clear hst B3 R3 L3 cb3 RF
    go_wp2_with fail
    go_loop [10, 11, 12] (fun s p t => ∃ k : Nat, k ≤ K ∧ s = .bool (wv f j ((64 : Int) * k)) ∧ p = .int .i64 ((64 : Int) * k) ∧ t = .int .i64 k) (fun _ _ t => K - (intOf t).toNat)
    case atStart => exact ⟨0, by omega, by rw [show ((64 : Int) * ((0 : Nat) : Int)) = 0 from rfl, wv_zero], rfl, rfl⟩
    case round =>
      obtain ⟨k, hk, rfl, rfl, rfl⟩ := hrel
      by_cases hlt : k < K
      · obtain ⟨b, off, rfl, hc⟩ := R4.out k (by omega)
        have hfk := HF.out k
        obtain ⟨s0, hs0⟩ : ∃ s0, wv f j ((64 : Int) * k) = s0 := ⟨_, rfl⟩
        have HS0 : Hid (wv f j ((64 : Int) * k) = s0) := hs0
        rw [hs0]
        clear hs0
        go_wp2_with fail
        go_loop [10, 11, 13, 14] (fun s p x t => ∃ r : Nat, r ≤ 64 ∧ s = .bool (wv f j ((64 : Int) * k + r)) ∧ p = .int .i64 ((64 : Int) * k + r) ∧ x = .int .u64 ((f k / 2 ^ r : Nat) : Int) ∧ t = .int .i64 r) (fun _ _ _ t => 64 - (intOf t).toNat)
        case atStart => exact ⟨0, by omega, by rw [← HS0.out]; simp, by go_num, by simp, rfl⟩
        case round =>
          obtain ⟨r, hr1, rfl, rfl, rfl, rfl⟩ := hrel
          clear HS0
          obtain ⟨s1, hs1⟩ : ∃ s1, wv f j ((64 : Int) * k + r) = s1 := ⟨_, rfl⟩
          have HS1 : Hid (wv f j ((64 : Int) * k + r) = s1) := hs1
          rw [hs1]
          clear hs1
          by_cases hr2 : r < 64
          · have HH : Hid (f k / 2 ^ r / 2 = f k / 2 ^ (r + 1)) := DLaws.half_pow _ _
            have HM : Hid (memI f ((64 : Int) * k + r) = ((((f k / 2 ^ r : Nat) : Int) % 2) == 1)) := bit_at_word f k r hr2
            have HN : Hid (memI F ((64 : Int) * k + r) = (memI f ((64 : Int) * k + r) && decide ((64 : Int) * k + r ≠ j))) := HME.out k r
            have hle : f k / 2 ^ r < 18446744073709551616 := Nat.lt_of_le_of_lt (Nat.div_le_self _ _) hfk
            have hjb : (64 : Int) * k + r ≤ 9223372036854775807 := by omega
            generalize f k / 2 ^ r = y at *
            by_cases hp : (64 : Int) * k + r = j
            · have e1 : ((64 : Int) * k + r == j) = true := beq_iff_eq.2 hp
              have HW : Hid (wv f j ((64 : Int) * k + r + 1) = memI f j) := wv_hit f j _ hp
              have HMF : Hid (memI F ((64 : Int) * k + r) = false) := (by rw [HN.out, hp]; simp : memI F ((64 : Int) * k + r) = false)
              have HMJ : Hid (memI f j = ((y : Int) % 2 == 1)) := (by rw [← HM.out, hp] : memI f j = ((y : Int) % 2 == 1))
              clear hp HN HM
              cases hy : ((y : Int) % 2 == 1)
              all_goals
                rw [hy] at HMJ
                go_wp2_with fail
                refine Calls.mono (has_eq B4.out hjb HMF.out) ?_
                rintro e w9 ⟨rfl, rfl⟩
                go_wp2_with fail
                go_round
                case rel => exact ⟨r + 1, by omega, by rw [show ((64 : Int) * k + ((r + 1 : Nat) : Int)) = (64 : Int) * k + r + 1 by omega, HW.out, HMJ.out], by go_num, by rw [← HH.out]; go_num, by go_num⟩
                case measure => simp [intOf]; omega
            · have e1 : ((64 : Int) * k + r == j) = false := beq_eq_false_iff_ne.2 hp
              have HW : Hid (wv f j ((64 : Int) * k + r + 1) = s1) := (wv_miss f j _ hp).trans HS1.out
              have HMF : Hid (memI F ((64 : Int) * k + r) = ((y : Int) % 2 == 1)) := (by rw [HN.out, decide_eq_true hp, Bool.and_true, HM.out] : memI F ((64 : Int) * k + r) = ((y : Int) % 2 == 1))
              clear hp HN HM
              cases hy : ((y : Int) % 2 == 1)
              all_goals
                rw [hy] at HMF
                go_wp2_with fail
                refine Calls.mono (has_eq B4.out hjb HMF.out) ?_
                rintro e w9 ⟨rfl, rfl⟩
                go_wp2_with fail
                go_round
                case rel => exact ⟨r + 1, by omega, by rw [show ((64 : Int) * k + ((r + 1 : Nat) : Int)) = (64 : Int) * k + r + 1 by omega, HW.out], by go_num, by rw [← HH.out]; go_num, by go_num⟩
                case measure => simp [intOf]; omega
          · have hr3 : r = 64 := by omega
            subst hr3
            have HW : Hid (wv f j ((64 : Int) * ((k + 1 : Nat) : Int)) = s1) := (by rw [← HS1.out]; congr 1 : wv f j ((64 : Int) * ((k + 1 : Nat) : Int)) = s1)
            go_wp2_with fail
            go_round
            case rel => exact ⟨k + 1, by omega, by rw [HW.out], by go_num, by go_num⟩
            case measure => simp [intOf]; omega
      · obtain rfl : k = K := by omega
        simp only [WA.out]
        go_wp2_with fail
        go_ret
        exact ⟨by simp, L4.out⟩

end Go.Proofs.Ymbrcu.BLaws
