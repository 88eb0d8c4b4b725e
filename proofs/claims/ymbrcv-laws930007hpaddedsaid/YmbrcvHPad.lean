/-
  THE WALK OF LawS930007HPadded.
-/
import Derived.Test.YmbrcvHLaws
import Derived.Deep.DeepCutAuto
namespace Go.Proofs.Ymbrcv.HLaws
open Go.RowKit Go.Proofs.Ymbrcv
set_option linter.unusedVariables false

/-- What HPadded lays: the head, the last word, zeros. -/
def pad (f : Nat → Nat) (n L : Nat) : Nat → Nat := upd (upto f n) n L
theorem tl_pad (f : Nat → Nat) (n L z : Nat) (hL : 0 < L) : tl (pad f n L) (n + 1 + z) = n + 1 := by
  induction z with
  | zero => 
    show tl _ (n + 1) = _
    rw [tl_succ, if_neg]
    unfold pad
    rw [upd_same]
    omega
  | succ z ih =>
    show tl _ (n + 1 + z + 1) = _
    rw [tl_succ, if_pos, ih]
    unfold pad
    rw [upd_other _ _ _ _ (by omega)]
    unfold upto
    rw [if_neg (by omega)]


/-- Behind the loop that copies the head, at whatever last word L that is not zero. -/
theorem pad_at (f : Nat → Nat) (n L i : Nat) : pad f n L i = if i = n then L else if i < n then f i else 0 := rfl

set_option maxRecDepth 100000 in
set_option maxHeartbeats 4000000 in
theorem hpadded (a : Option Addr) (n cap : Nat) (f : Nat → Nat) (l z : Nat) (w : World) (hr : Reads .u64 w a n f) (hn : n ≤ cap) (hm : cap ≤ maxLen) (hl : l < 18446744073709551616) (hz : z < 256) :
    Calls Ycvm.prog 13 #[.slice a n cap, .int .u64 l, .int .u8 z] w fun e w' => e = .returned (.bool true) ∧ Below w.heap.size w w' := by
  unfold maxLen at hm
  have HR : Hid (Reads .u64 w a n f) := hr
  clear hr
  by_cases hbig : 1024 < n
  · go_enter Ycvm.func13, Ycvm.ntmps13
    go_wp2_with fail
    go_ret
    exact ⟨rfl, Below.refl _ _⟩
  go_enter Ycvm.func13, Ycvm.ntmps13
  go_upto_if 17 with fail
  go_cut [1] (fun s wc => ∃ L : Nat, 0 < L ∧ L < 18446744073709551616 ∧ s = .int .u64 L ∧ wc = w)
  case first =>
    rcases Nat.eq_zero_or_pos l with hl0 | hl0
    · subst hl0
      go_wp2_with fail
      go_meet
      case rel => exact ⟨1, by omega, by omega, rfl, rfl⟩
    · have h1 : ((l : Int) == 0) = false := beq_eq_false_iff_ne.2 (by omega)
      go_wp2_with fail
      go_meet
      case rel => exact ⟨l, hl0, hl, rfl, rfl⟩
  case rest =>
    obtain ⟨L, hL0, hL, rfl, rfl⟩ := hcut
    go_wp2_with (first | (at_make; refine wpList_make _ rfl _ _ 26 rfl 33 .u64 Ycvm.underlying26 info_u64 _ _ _ _ (n + 1 + z) rfl rfl (by omega) (by omega) (by omega) ?_))
    intro w1 hown hbel hgr hsz
    have HO : Hid (Own _ _ _ _ _ _ _) := hown
    clear hown hgr
    go_wp2_with fail
    go_loopw [9] (fun i wr => ∃ k : Nat, k ≤ n ∧ i = .int .i64 k ∧ Own 33 .u64 wr wc.heap.size (.slice (some ⟨wc.heap.size, 0, none⟩) (n + 1 + z) (n + 1 + z)) (n + 1 + z) (upto f k) ∧ Below wc.heap.size wc wr) (fun i _ => n - (intOf i).toNat)
    case atStart => exact ⟨0, by omega, rfl, by rw [upto_zero]; exact HO.out, hbel⟩
    case round =>
      clear HO hbel hsz w1
      obtain ⟨k, hk, rfl, hown, hb⟩ := hrel
      by_cases hlt : k < n
      · obtain ⟨b, off, rfl, hc⟩ := HR.out k hlt
        have hc1 : wr.cell? ⟨b, off + k, none⟩ = some (.int .u64 (f k)) := (hb.cell (World.block_lt_of_cell? wc _ hc)).trans hc
        have hc2 := hown.cell k (by omega)
        have hf2 := hown.frozen k
        have HO2 : Hid (Own _ _ _ _ _ _ _) := hown.set k (f k)
        have HB2 : Hid (Below _ _ _) := hb.setCell (p := ⟨wc.heap.size, k, none⟩) (Nat.le_refl _) (.int .u64 (f k))
        clear hown hb hc
        go_wp2_with fail
        go_roundw
        case rel => exact ⟨k + 1, by omega, by go_num, by rw [← upto_succ]; exact HO2.out, HB2.out⟩
        case measure => simp [intOf]; omega
      · obtain rfl : k = n := by omega
        have hc2 := hown.cell k (by omega)
        have hf2 := hown.frozen k
        have HO2 : Hid (Own _ _ _ _ _ _ (pad f k L)) := hown.set k L
        have HB2 : Hid (Below _ _ _) := hb.setCell (p := ⟨wc.heap.size, k, none⟩) (Nat.le_refl _) (.int .u64 L)
        clear hown hb
        go_wp2_with fail
        generalize wr.setCell ⟨wc.heap.size, k, none⟩ (.int .u64 L) = w3 at *
        have HT : Hid _ := trim_any (some ⟨wc.heap.size, 0, none⟩) (k + 1 + z) (k + 1 + z) (pad f k L) w3 HO2.out.reads (Nat.le_refl _) (by unfold maxLen; omega) (fun h => by cases h)
        rw [tl_pad f k L z hL0] at HT
        clear hc2 hf2 hlt
        refine Calls.mono HT.out ?_
        rintro e w4 ⟨rfl, rfl⟩
        clear HT
        go_wp2_with fail
        go_loopw [11] (fun t wr => ∃ j : Nat, j ≤ k ∧ t = .int .i64 j ∧ Still w4 wr) (fun t _ => k - (intOf t).toNat)
        case atStart => exact ⟨0, by omega, rfl, Still.refl _⟩
        case round =>
          obtain ⟨j, hj, rfl, hst⟩ := hrel
          by_cases hjk : j < k
          · obtain ⟨b, off, rfl, hc⟩ := HR.out j hjk
            have hc1 : wr.cell? ⟨b, off + j, none⟩ = some (.int .u64 (f j)) := (hst.cell _).trans ((HB2.out.cell (World.block_lt_of_cell? wc _ hc)).trans hc)
            have hc2 : wr.cell? ⟨wc.heap.size, j, none⟩ = some (.int .u64 (f j)) := by
              rw [hst.cell, HO2.out.cell j (by omega), pad_at, if_neg (by omega), if_pos hjk]
            clear hc
            have b1 : (0 : Int) ≤ (j : Int) := by omega
            have b2 : (j : Int) < (k : Int) + 1 := by omega
            have b3 : (j : Int) < (k : Int) := by omega
            have b4 : (j : Int) < (k : Int) + 1 + z := by omega
            go_wp2_with fail
            go_quiet (fail)
            go_wp2_with fail
            go_roundw
            case rel => exact ⟨j + 1, by omega, by go_num, hst.drewN _⟩
            case measure => simp [intOf]; omega
          · obtain rfl : j = k := by omega
            have hc2 : wr.cell? ⟨wc.heap.size, j, none⟩ = some (.int .u64 L) := by
              rw [hst.cell, HO2.out.cell j (by omega), pad_at, if_pos rfl]
            have hf2 : wr.frozen? ⟨wc.heap.size, j, none⟩ = false := (hst.frozen _).trans (HO2.out.frozen j)
            have HOr : Hid (∀ i, i < j + 1 + z → wr.cell? ⟨wc.heap.size, i, none⟩ = some (.int .u64 (pad f j L i))) := fun i hi => (hst.cell _).trans (HO2.out.cell i hi)
            have HBr : Hid (Below wc.heap.size wc wr) := HB2.out.trans hst.below
            clear hst
            go_wp2_with fail
            go_loop [12] (fun t => ∃ i : Nat, j + 1 ≤ i ∧ i ≤ j + 1 + z ∧ t = .int .i64 i) (fun t => j + 1 + z - (intOf t).toNat)
            case atStart => exact ⟨j + 1, by omega, by omega, by go_num⟩
            case round =>
              obtain ⟨i, hi1, hi2, rfl⟩ := hrel
              by_cases hin : i < j + 1 + z
              · have hci : wr.cell? ⟨wc.heap.size, i, none⟩ = some (.int .u64 ((0 : Nat) : Int)) := by
                  rw [HOr.out i hin, pad_at, if_neg (by omega), if_neg (by omega)]
                go_wp2_with fail
                go_round
                case rel => exact ⟨i + 1, by omega, by omega, by go_num⟩
                case measure => simp [intOf]; omega
              · obtain rfl : i = j + 1 + z := by omega
                go_wp2_with fail
                go_ret
                exact ⟨by simp, HBr.out.setCell (p := ⟨wc.heap.size, j, none⟩) (Nat.le_refl _) _⟩
end Go.Proofs.Ymbrcv.HLaws
