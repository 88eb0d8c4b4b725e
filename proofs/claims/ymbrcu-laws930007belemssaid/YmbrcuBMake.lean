/-
  THE WALKS OF bmake AND bplace.
-/
import Derived.Test.YmbrcuClear
namespace Go.Proofs.Ymbrcu
open Go.RowKit
set_option linter.unusedVariables false

set_option maxRecDepth 100000 in
set_option maxHeartbeats 1000000 in
theorem bmake_any (a : Option Addr) (n cap : Nat) (f : Nat → Nat) (w : World) (hr : Reads .u64 w a n f) (hf : Fit64 f) (hzf : ∀ i, n ≤ i → f i = 0) (hn : n ≤ 1048576) :
    Calls Ycum.prog 21 #[.slice a n cap] w fun e w' => ∃ p v, e = .returned (.pointer (some ⟨p, 0, none⟩)) ∧ Bts w' w.heap.size p v (tl f n) f ∧ Below w.heap.size w w' := by
  have HR : Hid (Reads .u64 w a n f) := hr
  have HF : Hid (Fit64 f) := hf
  have HZ : Hid (∀ i, tl f n ≤ i → f i = 0) := tl_zeros hzf
  clear hr hf hzf
  have hKn := tl_le f n
  obtain ⟨g, hg⟩ : ∃ g, w.heap.size = g := ⟨_, rfl⟩
  have HG : Hid (w.heap.size = g) := hg
  rw [hg]
  clear hg
  obtain ⟨K, hK⟩ : ∃ K, tl f n = K := ⟨_, rfl⟩
  have HK : Hid (tl f n = K) := hK
  rw [hK] at HZ hKn ⊢
  clear hK
  go_enter Ycum.func21, Ycum.ntmps21
  go_wp2_with fail
  go_loop [3] (fun t => ∃ k : Nat, ∃ c : Int, k ≤ n ∧ tl f k = K ∧ c = (k : Int) ∧ t = .int .i64 c) (fun t => (intOf t).toNat)
  case atStart => exact ⟨n, _, Nat.le_refl _, HK.out, rfl, rfl⟩
  case round =>
    obtain ⟨k, c, hk, ht, hc, rfl⟩ := hrel
    have HT : Hid (tl f k = K) := ht
    have HC : Hid (c = (k : Int)) := hc
    clear ht
    have hex : (decide (0 < c) = false ∧ K = k) ∨ (decide (0 < c) = true ∧ ∃ b off, a = some ⟨b, off, none⟩ ∧ w.cell? ⟨b, off + (c.toNat - 1), none⟩ = some (.int .u64 (f (k - 1))) ∧ f (k - 1) = 0 ∧ tl f (k - 1) = K ∧ 0 < k) ∨
      (decide (0 < c) = true ∧ ∃ b off, a = some ⟨b, off, none⟩ ∧ w.cell? ⟨b, off + (c.toNat - 1), none⟩ = some (.int .u64 (f (k - 1))) ∧ f (k - 1) ≠ 0 ∧ K = k ∧ 0 < k) := by
      rcases Nat.eq_zero_or_pos k with h0 | h0
      · subst h0
        exact .inl ⟨decide_eq_false (by omega), HT.out.symm⟩
      · obtain ⟨b, off, hb, hcell⟩ := HR.out (k - 1) (by omega)
        have e : c.toNat - 1 = k - 1 := by omega
        by_cases h : f (k - 1) = 0
        · exact .inr (.inl ⟨decide_eq_true (by omega), b, off, hb, by rw [e]; exact hcell, h, (tl_step0 f k h0 h).trans HT.out, h0⟩)
        · exact .inr (.inr ⟨decide_eq_true (by omega), b, off, hb, by rw [e]; exact hcell, h, by rw [← HT.out, tl_step1 f k h0 h], h0⟩)
    have c0 : 0 ≤ c := by omega
    have c1 : c ≤ (n : Int) := by omega
    clear hc
    rcases hex with ⟨d1, hKk⟩ | ⟨d1, b, off, rfl, hcell, h0, hT, hk0⟩ | ⟨d1, b, off, rfl, hcell, h0, hKk, hk0⟩
    case inr.inl =>
      rw [h0] at hcell
      have HT1 : Hid (tl f (k - 1) = K) := hT
      have c2 : 0 < c := by have := HC.out; omega
      clear h0 hT
      go_wp2_with fail
      go_round
      case rel => exact ⟨k - 1, c - 1, by omega, HT1.out, by have := HC.out; omega, by go_num⟩
      case measure => have := HC.out; simp [intOf]; omega
    all_goals
      have HCK : Hid (c = (K : Int)) := (by rw [HC.out, hKk] : c = (K : Int))
      clear hKk
    case inr.inr =>
      have hy : ((f (k - 1) : Int) == 0) = false := beq_eq_false_iff_ne.2 (by omega)
      have c2 : 0 < c := by have := HC.out; omega
      clear h0
      go_upto_region 4 with fail
      have e1 := HCK.out
      subst e1
      go_wp2_with (first | (at_make; refine wpList_make _ rfl _ _ 22 rfl 30 .u64 Ycum.underlying22 info_u64 _ _ _ _ K rfl rfl (by omega) (by omega) (by omega) g HG.out ?_))
      intro w1 o1 b1 _ z1
      have O1 : Hid (Own _ _ _ _ _ _ _) := o1
      clear o1 z1
      go_wp2_with fail
      go_loopw [5] (fun t wr => ∃ k : Nat, k ≤ K ∧ t = .int .i64 k ∧ Own 30 .u64 wr g (.slice (some ⟨g, 0, none⟩) K K) K (upto f k) ∧ Below g w wr) (fun t _ => K - (intOf t).toNat)
      case atStart => exact ⟨0, by omega, rfl, by rw [upto_zero]; exact O1.out, b1⟩
      case round =>
        clear O1 b1
        obtain ⟨k, hk, rfl, o1, hb⟩ := hrel
        by_cases hlt : k < K
        · obtain ⟨b, off, e, hc⟩ := HR.out k (by omega)
          cases e
          have hbg : b < g := by rw [← HG.out]; exact World.block_lt_of_cell? w _ hc
          have c0 : wr.cell? ⟨b, off + k, none⟩ = some (.int .u64 (f k)) := (hb.cell (p := ⟨b, off + k, none⟩) hbg).trans hc
          have c1 := o1.cell k (by omega)
          have f1 := o1.frozen k
          have R1 : Hid (Own _ _ _ _ _ _ _) := o1.set k (f k)
          have R3 : Hid (Below _ _ _) := hb.setCell (p := ⟨g, k, none⟩) (Nat.le_refl _) (.int .u64 (f k))
          clear o1 hb hc
          go_wp2_with fail
          go_roundw
          case rel => exact ⟨k + 1, by omega, by go_num, by rw [← upto_succ]; exact R1.out, R3.out⟩
          case measure => simp [intOf]; omega
        · obtain rfl : k = K := by omega
          have R1 : Hid (Own _ _ _ _ _ _ f) := o1.congr fun i hi => by unfold upto; rw [if_pos hi]
          have R3 : Hid (Below _ _ _) := hb
          have hgz : g ≤ wr.heap.size := by rw [← HG.out]; exact hb.size
          clear o1 hb
          go_wp2_with fail
          go_ret
          exact ⟨_, _, rfl, bts_box R1.out hgz HZ.out HF.out, R3.out.alloc hgz _⟩
    case inl =>
      go_upto_region 4 with fail
      have e1 := HCK.out
      subst e1
      go_wp2_with (first | (at_make; refine wpList_make _ rfl _ _ 22 rfl 30 .u64 Ycum.underlying22 info_u64 _ _ _ _ K rfl rfl (by omega) (by omega) (by omega) g HG.out ?_))
      intro w1 o1 b1 _ z1
      have O1 : Hid (Own _ _ _ _ _ _ _) := o1
      clear o1 z1
      go_wp2_with fail
      go_loopw [5] (fun t wr => ∃ k : Nat, k ≤ K ∧ t = .int .i64 k ∧ Own 30 .u64 wr g (.slice (some ⟨g, 0, none⟩) K K) K (upto f k) ∧ Below g w wr) (fun t _ => K - (intOf t).toNat)
      case atStart => exact ⟨0, by omega, rfl, by rw [upto_zero]; exact O1.out, b1⟩
      case round =>
        clear O1 b1
        obtain ⟨k, hk, rfl, o1, hb⟩ := hrel
        by_cases hlt : k < K
        · obtain ⟨b, off, e, hc⟩ := HR.out k (by omega)
          cases e
          have hbg : b < g := by rw [← HG.out]; exact World.block_lt_of_cell? w _ hc
          have c0 : wr.cell? ⟨b, off + k, none⟩ = some (.int .u64 (f k)) := (hb.cell (p := ⟨b, off + k, none⟩) hbg).trans hc
          have c1 := o1.cell k (by omega)
          have f1 := o1.frozen k
          have R1 : Hid (Own _ _ _ _ _ _ _) := o1.set k (f k)
          have R3 : Hid (Below _ _ _) := hb.setCell (p := ⟨g, k, none⟩) (Nat.le_refl _) (.int .u64 (f k))
          clear o1 hb hc
          go_wp2_with fail
          go_roundw
          case rel => exact ⟨k + 1, by omega, by go_num, by rw [← upto_succ]; exact R1.out, R3.out⟩
          case measure => simp [intOf]; omega
        · obtain rfl : k = K := by omega
          have R1 : Hid (Own _ _ _ _ _ _ f) := o1.congr fun i hi => by unfold upto; rw [if_pos hi]
          have R3 : Hid (Below _ _ _) := hb
          have hgz : g ≤ wr.heap.size := by rw [← HG.out]; exact hb.size
          clear o1 hb
          go_wp2_with fail
          go_ret
          exact ⟨_, _, rfl, bts_box R1.out hgz HZ.out HF.out, R3.out.alloc hgz _⟩

set_option maxHeartbeats 1000000 in
theorem bplace_any (i : Int) (b : Bool) (n : Nat) (w : World) (h1 : -9223372036854775808 ≤ i) (h2 : i ≤ 9223372036854775807) (hn : n ≤ 1048576) :
    Calls Ycum.prog 22 #[.int .i64 i, .bool b, .int .i64 n] w fun e w' => ∃ j : Int, e = .returned (.int .i64 j) ∧ -9223372036854775808 ≤ j ∧ j ≤ 9223372036854775807 ∧ w' = w := by
  cases b with
  | true =>
    go_enter Ycum.func22, Ycum.ntmps22
    go_wp2_with fail
    go_ret
    exact ⟨i, rfl, h1, h2, rfl⟩
  | false =>
    by_cases h0 : n = 0
    · subst h0
      go_enter Ycum.func22, Ycum.ntmps22
      go_wp2_with fail
      go_ret
      exact ⟨i, rfl, h1, h2, rfl⟩
    · have hb : ((n : Int) == 0) = false := beq_eq_false_iff_ne.2 (by omega)
      obtain ⟨u, hu⟩ : ∃ u : Nat, IntKind.u64.wrap i = (u : Int) := ⟨(i % 18446744073709551616).toNat, by rw [IntKind.wrap_u64]; omega⟩
      have hm : (u : Int) % ((n : Int) * 64) < (n : Int) * 64 := Int.emod_lt_of_pos _ (by omega)
      have hm0 : 0 ≤ (u : Int) % ((n : Int) * 64) := Int.emod_nonneg _ (by omega)
      obtain ⟨y, hy⟩ : ∃ y : Int, (u : Int) % ((n : Int) * 64) = y := ⟨_, rfl⟩
      rw [hy] at hm hm0
      go_enter Ycum.func22, Ycum.ntmps22
      go_wp2_with fail
      go_ret
      refine ⟨y, ?_, by omega, by omega, rfl⟩
      go_num

end Go.Proofs.Ymbrcu
