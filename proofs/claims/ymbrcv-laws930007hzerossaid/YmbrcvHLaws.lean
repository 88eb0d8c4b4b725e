/-
  THE WALKS OF LawS930007HZeros, HExact, HPadded.
-/
import Derived.Test.YmbrcvOwn
import Derived.Test.YmbrcvTrim
import Derived.Deep.QuietTactic
import Derived.BigQuiet
namespace Go.Proofs.Ymbrcv.HLaws
open Go.RowKit Go.Proofs.Ymbrcv
set_option linter.unusedVariables false

theorem tl_all0 (n : Nat) : tl (fun _ => 0) n = 0 := by
  induction n with
  | zero => rfl
  | succ n ih => simp [tl, ih]

set_option maxHeartbeats 400000 in
theorem hzeros (c : Nat) (hc : c < 256) (w : World) :
    Calls Ycvm.prog 14 #[.int .u8 c] w fun e w' => e = .returned (.bool true) ∧ Grown w w' := by
  have hnil := fun (w : World) (a : Option Addr) (n c : Nat) => Lib.run_eql_slice_nil (P := Ycvm.prog) w 26 33 a n c 0 0 Ycvm.underlying26
  go_enter Ycvm.func14, Ycvm.ntmps14
  go_wp2_with (first | (at_make; refine wpList_make _ rfl _ _ 26 rfl 33 .u64 Ycvm.underlying26 info_u64 _ _ _ _ c rfl rfl (by omega) (by omega) (by omega) ?_))
  intro w1 hown hbel hgr hsz
  have hC := trim_any (some ⟨w.heap.size, 0, none⟩) c c (fun _ => 0) w1 hown.reads (Nat.le_refl _) (by unfold maxLen; omega) (fun h => by cases h)
  rw [tl_all0] at hC
  have HC : Hid _ := hC
  have HO : Hid (∀ i, i < c → w1.cell? ⟨w.heap.size, i, none⟩ = some (.int .u64 ((0 : Nat) : Int))) := fun i hi => hown.cell i hi
  clear hC hown hsz hbel
  go_wp2_with fail
  refine Calls.mono HC.out ?_
  rintro e w2 ⟨rfl, rfl⟩
  go_wp2_with fail
  go_loop [5] (fun t => ∃ k : Nat, k ≤ c ∧ t = .int .i64 k) (fun t => c - (intOf t).toNat)
  case atStart => exact ⟨0, by omega, rfl⟩
  case round =>
    obtain ⟨k, hk, rfl⟩ := hrel
    by_cases h0 : k < c
    · have hcell := HO.out k h0
      go_wp2
      go_round
      case rel => exact ⟨k + 1, by omega, by go_num⟩
      case measure => simp [intOf]; omega
    · have e : k = c := by omega
      subst e
      go_wp2
      go_ret
      exact ⟨rfl, hgr⟩

theorem tl_succ (f : Nat → Nat) (k : Nat) : tl f (k + 1) = if f k = 0 then tl f k else k + 1 := rfl

theorem run_equalIn_self (d b o : Nat) (w : World) : (Op.equalIn (d + 1) 52 (.pointer (some ⟨b, o, none⟩)) (.pointer (some ⟨b, o, none⟩))).run Ycvm.prog w = .ok true w := by
  obtain ⟨i0, hi, hz0, hz1, hz2⟩ := info_parts info_u64
  simp [Op.equalIn, run_underlying Ycvm.underlying52, sizeOf, typeInfo, hi, sameAddr]
theorem run_equal_self (b o : Nat) (w : World) : (Op.equal 52 (.pointer (some ⟨b, o, none⟩)) (.pointer (some ⟨b, o, none⟩))).run Ycvm.prog w = .ok true w := run_equalIn_self 9999 b o w
theorem run_eql_self (b o : Nat) (w : World) : (binOp .eql 52 (.pointer (some ⟨b, o, none⟩)) (.pointer (some ⟨b, o, none⟩))).run Ycvm.prog w = .ok (.bool true) w := by
  simp only [binOp]
  simp [run_equal_self]

set_option maxHeartbeats 1000000 in
theorem hexact (a : Option Addr) (n cap : Nat) (f : Nat → Nat) (w : World) (hr : Reads .u64 w a n f) (hn : n ≤ cap) (hm : cap ≤ maxLen) (hz : a = none → cap = 0) :
    Calls Ycvm.prog 12 #[.slice a n cap] w fun e w' => e = .returned (.bool true) ∧ Below w.heap.size w w' := by
  have HT : Hid _ := trim_any a n cap f w hr hn hm hz
  have hnil := fun (w : World) (a : Option Addr) (n c : Nat) => Lib.run_eql_slice_nil (P := Ycvm.prog) w 26 33 a n c 0 0 Ycvm.underlying26
  unfold maxLen at hm
  rcases Nat.eq_zero_or_pos n with h0 | h0
  · subst h0
    clear hr hz
    go_enter Ycvm.func12, Ycvm.ntmps12
    go_wp2_with fail
    refine wp_loop_rounds 1 ?_
    rw [rounds_succ]
    go_wp2_with fail
    refine Calls.mono HT.out ?_
    rintro e w2 ⟨rfl, rfl⟩
    have e0 : tl f 0 = 0 := rfl
    rw [e0]
    go_wp2_with fail
    refine wp_loop_rounds 1 ?_
    rw [rounds_succ]
    go_wp2_with fail
    go_quiet (fail)
    go_wp2
    go_ret
    exact ⟨rfl, below_drewN (Below.refl _ _) _⟩
  · obtain ⟨b, off, rfl, hc⟩ := hr.at h0
    clear hr hz
    have HC : Hid (∀ i, i < n → w.cell? ⟨b, off + i, none⟩ = some (.int .u64 (f i))) := hc
    clear hc
    go_enter Ycvm.func12, Ycvm.ntmps12
    go_wp2_with fail
    go_loop [3, 4] (fun t i => ∃ k : Nat, k ≤ n ∧ i = .int .i64 k ∧ t = .int .i64 (tl f k)) (fun _ i => n - (intOf i).toNat)
    case atStart => exact ⟨0, by omega, rfl, rfl⟩
    case round =>
      obtain ⟨k, hk, rfl, rfl⟩ := hrel
      have hle := tl_le f k
      by_cases hlt : k < n
      · have hcell := HC.out k hlt
        have HS : Hid (tl f (k + 1) = if f k = 0 then tl f k else k + 1) := tl_succ f k
        generalize f k = y at *
        rcases Nat.eq_zero_or_pos y with hy | hy
        · subst hy
          go_wp2
          go_round
          case rel => exact ⟨k + 1, by omega, by go_num, by rw [HS.out, if_pos rfl]⟩
          case measure => simp [intOf]; omega
        · have h1 : ((y : Int) != 0) = true := by rw [bne_iff_ne]; omega
          go_wp2
          go_round
          case rel => exact ⟨k + 1, by omega, by go_num, by rw [HS.out, if_neg (by omega)]; go_num⟩
          case measure => simp [intOf]; omega
      · obtain rfl : k = n := by omega
        go_wp2_with fail
        refine Calls.mono HT.out ?_
        rintro e w2 ⟨rfl, rfl⟩
        go_wp2_with fail
        generalize tl f k = m at *
        go_loopw [6] (fun t wr => ∃ j : Nat, j ≤ m ∧ t = .int .i64 j ∧ Still w2 wr) (fun t _ => m - (intOf t).toNat)
        case atStart => exact ⟨0, by omega, rfl, Still.refl _⟩
        case round =>
          obtain ⟨j, hj, rfl, hst⟩ := hrel
          by_cases hjm : j < m
          · have hcell : wr.cell? ⟨b, off + j, none⟩ = some (.int .u64 (f j)) := (hst.cell _).trans (HC.out j (by omega))
            have b1 : (0 : Int) ≤ (j : Int) := by omega
            have b2 : (j : Int) < (m : Int) := by omega
            have b3 : (j : Int) < (k : Int) := by omega
            go_wp2_with fail
            go_quiet (fail)
            go_wp2
            go_roundw
            case rel => exact ⟨j + 1, by omega, by go_num, hst.drewN _⟩
            case measure => simp [intOf]; omega
          · obtain rfl : j = m := by omega
            rcases Nat.eq_zero_or_pos j with hj0 | hj0
            · subst hj0
              go_wp2_with fail
              go_quiet (fail)
              go_wp2
              go_ret
              exact ⟨rfl, below_drewN hst.below _⟩
            · have hd : ((j : Int) == 0) = false := beq_eq_false_iff_ne.2 (by omega)
              have b2 : (0 : Int) < (j : Int) := by omega
              have b3 : (0 : Int) < (k : Int) := by omega
              have hself := run_eql_self b off
              go_wp2_with fail
              go_quiet (fail)
              go_wp2
              go_ret
              exact ⟨rfl, below_drewN hst.below _⟩

end Go.Proofs.Ymbrcv.HLaws
