/-
  THE WALK OF LawS930007CAlias.
-/
import Derived.Test.YmbrcuCLaws
import Derived.Test.YmbrcuCanon
namespace Go.Proofs.Ymbrcu.CLaws
open Go.RowKit Go.Proofs.Ymbrcu
set_option linter.unusedVariables false

theorem upto_zero_beyond (f : Nat → Nat) (m : Nat) : ∀ i, m ≤ i → upto f m i = 0 := fun i hi => by unfold upto; rw [if_neg (by omega)]
theorem or_upto (f : Nat → Nat) (m : Nat) : (fun i => f i ||| upto f m i) = f := by
  funext i
  unfold upto
  split
  · exact Nat.or_self _
  · exact Nat.or_zero _
theorem upto_or (f : Nat → Nat) (m : Nat) : (fun i => upto f m i ||| f i) = f := by
  funext i
  rw [Nat.or_comm]
  exact congrFun (or_upto f m) i
theorem or_self_fn (f : Nat → Nat) : (fun i => f i ||| f i) = f := by
  funext i
  exact Nat.or_self _

set_option maxRecDepth 100000 in
set_option maxHeartbeats 2000000 in
theorem calias (a : Option Addr) (n cap : Nat) (f : Nat → Nat) (N : Nat) (sw : Bool) (w : World) (hr : Reads .u64 w a n f) (hf : Fit64 f) (zf : ∀ i, n ≤ i → f i = 0) (hN : N < 18446744073709551616)
    (hn : n ≤ cap) (hm : cap ≤ maxLen) :
    Calls Ycum.prog 11 #[.slice a n cap, .int .u64 N, .bool sw] w fun e w' => e = .returned (.bool true) ∧ Below w.heap.size w w' := by
  unfold maxLen at hm
  by_cases hbig : 1024 < n
  · clear hr
    go_enter Ycum.func11, Ycum.ntmps11
    go_wp2_with fail
    go_ret
    exact ⟨rfl, Below.refl _ _⟩
  have d1 : decide ((1024 : Int) < (n : Int)) = false := decide_eq_false (by omega)
  have RF : Hid (Reads .u64 w a n f) := hr
  have ZF : Hid (∀ i, n ≤ i → f i = 0) := zf
  have FF : Hid (Fit64 f) := hf
  have C1 : Hid _ := ccopy_any a n cap f w hr (by omega)
  obtain ⟨m, hmm⟩ : ∃ m, N % (n + 1) = m := ⟨_, rfl⟩
  have hmn : m ≤ n := by
    have := Nat.mod_lt N (show n + 1 > 0 by omega)
    omega
  have hmod : (N : Int) % ((n : Int) + 1) = (m : Int) := by rw [← hmm, Int.natCast_emod]; rfl
  clear hr hf zf hmm
  go_enter Ycum.func11, Ycum.ntmps11
  go_wp2_with fail
  refine Calls.mono C1.out ?_
  rintro e w1 ⟨rfl, o1, b1⟩
  have z1 : w.heap.size ≤ w1.heap.size := b1.size
  have D1 : Hid (Bts _ w.heap.size w1.heap.size _ _ _) := bts_box o1 z1 ZF.out FF.out
  have L1 : Hid (Below w.heap.size w _) := b1.alloc z1 (.cells #[.slice (some ⟨w.heap.size, 0, none⟩) n n] 27)
  clear o1 b1
  go_upto_if 35 with fail
  clear hmod
  have D3 : Hid (Bts _ _ _ _ _ _) := D1.out.below ((Below.refl _ _).alloc (Nat.le_refl _) (.cells #[.slice (some ⟨w.heap.size, 0, none⟩) m n] 27)) (Nat.le_refl _)
  have L3 : Hid (Below w.heap.size w _) := L1.out.alloc L1.out.size (.cells #[.slice (some ⟨w.heap.size, 0, none⟩) m n] 27)
  have cc : ((w1.alloc (.cells #[.slice (some ⟨w.heap.size, 0, none⟩) n n] 27)).alloc (.cells #[.slice (some ⟨w.heap.size, 0, none⟩) m n] 27)).cell? ⟨w1.heap.size + 1, 0, none⟩ = some (.slice (some ⟨w.heap.size, 0, none⟩) m n) := by simp [go_sem]
  have z3 : w.heap.size ≤ ((w1.alloc (.cells #[.slice (some ⟨w.heap.size, 0, none⟩) n n] 27)).alloc (.cells #[.slice (some ⟨w.heap.size, 0, none⟩) m n] 27)).heap.size := L3.out.size
  clear D1 L1
  generalize (w1.alloc (.cells #[.slice (some ⟨w.heap.size, 0, none⟩) n n] 27)).alloc (.cells #[.slice (some ⟨w.heap.size, 0, none⟩) m n] 27) = w3 at *
  generalize w1.heap.size = p at *
  have Rb : Hid (Reads .u64 w3 (some ⟨w.heap.size, 0, none⟩) n f) := D3.out.own.reads
  have Rc : Hid (Reads .u64 w3 (some ⟨w.heap.size, 0, none⟩) m (upto f m)) := fun i hi => by
    obtain ⟨b, off, e, hc⟩ := Rb.out i (by omega)
    exact ⟨b, off, e, by rw [hc]; unfold upto; rw [if_pos hi]⟩
  have cb := D3.out.cell
  have CC : Hid (w3.cell? ⟨p + 1, 0, none⟩ = _) := cc
  have CU1 : Hid _ := union_any p (p + 1) _ n n f _ m n (upto f m) w3 cb cc Rb.out Rc.out ZF.out (upto_zero_beyond f m) FF.out (upto_lt FF.out m) (by omega) (by omega)
  have CU2 : Hid _ := union_any (p + 1) p _ m n (upto f m) _ n n f w3 cc cb Rc.out Rb.out (upto_zero_beyond f m) ZF.out (upto_lt FF.out m) FF.out (by omega) (by omega)
  rw [or_upto, Nat.max_eq_left hmn] at CU1
  rw [upto_or, Nat.max_eq_right hmn] at CU2
  clear cb cc
  go_cut [11] (fun t wc => ∃ r v, t = .pointer (some ⟨r, 0, none⟩) ∧ Bts wc w3.heap.size r v n f ∧ Below w3.heap.size w3 wc)
  case first =>
    cases sw with
    | true =>
      go_wp2_with fail
      refine Calls.mono CU2.out ?_
      rintro e w5 ⟨r, v, rfl, b5, l5⟩
      have B5 : Hid (Bts _ _ _ _ _ _) := b5
      have L5 : Hid (Below _ _ _) := l5
      clear b5 l5
      go_wp2_with fail
      go_meet
      case rel => exact ⟨r, v, rfl, B5.out, L5.out⟩
    | false =>
      go_wp2_with fail
      refine Calls.mono CU1.out ?_
      rintro e w5 ⟨r, v, rfl, b5, l5⟩
      have B5 : Hid (Bts _ _ _ _ _ _) := b5
      have L5 : Hid (Below _ _ _) := l5
      clear b5 l5
      go_wp2_with fail
      go_meet
      case rel => exact ⟨r, v, rfl, B5.out, L5.out⟩
  case rest =>
    obtain ⟨r, v, rfl, b5, l5⟩ := hcut
    have B5 : Hid (Bts wc _ _ _ _ _) := b5
    have L5 : Hid (Below w3.heap.size w3 wc) := l5
    have D5 : Hid (Bts wc _ _ _ _ _) := D3.out.below l5 (Nat.le_refl _)
    clear b5 l5 CU1 CU2
    go_wp2_with fail
    refine Calls.mono (union_bts D5.out D5.out (by omega) (by omega)) ?_
    rintro e w6 ⟨s, u, rfl, b6, l6⟩
    rw [or_self_fn, Nat.max_self] at b6
    have S6 : Hid (Bts w6 _ _ _ _ _) := b6
    have U6 : Hid (Bts w6 _ _ _ _ _) := B5.out.below l6 (Nat.le_refl _)
    have z5 : w3.heap.size ≤ wc.heap.size := L5.out.size
    have L6 : Hid (Below w3.heap.size w3 w6) := L5.out.trans (l6.mono z5)
    have hsep := sep_base B5.out b6 (Nat.le_refl _)
    have SEP : Hid (r ≠ s ∧ Sep v u) := hsep
    clear b6 l6 hsep
    have cu := U6.out.cell
    have cs := S6.out.cell
    obtain ⟨au, ku, rfl, ru, _⟩ := U6.out.slice
    obtain ⟨az, ks, rfl, rs, _⟩ := S6.out.slice
    have RU : Hid (Reads .u64 w6 au n f) := ru
    have RS : Hid (Reads .u64 w6 az n f) := rs
    have RA : Hid (Reads .u64 w6 a n f) := RF.out.below (L3.out.trans (L6.out.mono z3))
    clear ru rs
    go_wp2_with fail
    refine Calls.mono (csame_eq RU.out RA.out (by omega) (eqB_same rfl fun _ _ => rfl)) ?_
    rintro e w7 ⟨rfl, s7⟩
    have S7 : Hid (Still w6 w7) := s7
    have cs7 := (s7.cell ⟨s, 0, none⟩).trans cs
    clear s7 cu cs
    go_wp2_with fail
    refine Calls.mono (csame_eq (S7.out.reads RS.out) (S7.out.reads RA.out) (by omega) (eqB_same rfl fun _ _ => rfl)) ?_
    rintro e w8 ⟨rfl, s8⟩
    have S8 : Hid (Still w6 w8) := S7.out.trans s8
    clear s8 cs7 S7
    go_wp2_with fail
    go_loopw [13] (fun t wr => ∃ (j : Nat) (G : Nat → Nat), j ≤ n ∧ t = .int .i64 j ∧ Bts wr w3.heap.size r (.slice au n ku) n G ∧ Bts wr wc.heap.size s (.slice az n ks) n f ∧ Below w3.heap.size w3 wr) (fun t _ => n - (intOf t).toNat)
    case atStart => exact ⟨0, f, by omega, rfl, U6.out.still S8.out, S6.out.still S8.out, L6.out.trans S8.out.below⟩
    case round =>
      obtain ⟨j, G, hj, rfl, bt, bs, bl⟩ := hrel
      by_cases hjk : j < n
      · obtain ⟨x, rfl⟩ : ∃ x, au = some ⟨x, 0, none⟩ := by
          rcases bt.own.form with ⟨_, h0⟩ | ⟨x, c, hv, _⟩
          · omega
          · cases hv; exact ⟨x, rfl⟩
        have ra := RF.out.below (L3.out.trans (bl.mono z3))
        obtain ⟨ba, oa, rfl, ca⟩ := ra j hjk
        have c0 := bt.cell
        have c1 := bt.own.cell j hjk
        have f1 := bt.own.frozen j
        have HNO : Kept (bits .xor .u64 (if IntKind.u64.signed = true then -1 else IntKind.u64.max) (f j : Int) = (not64 (f j) : Int)) := Kept.mk (u64_not' (f j) (FF.out j))
        obtain ⟨bt2, tc2⟩ := bts_store bt j (not64 (f j)) hjk (not64_lt _)
        have BT : Hid (Bts _ _ _ _ _ _) := bt2
        have BS : Hid (Bts _ _ _ _ _ _) := tc2.other bt bs (Ne.symm SEP.out.1) SEP.out.2.symm
        have BL : Hid (Below w3.heap.size w3 _) := bl.trans (tc2.below bt (Nat.le_refl _) bl.size)
        have b1 : (0 : Int) ≤ (j : Int) := by omega
        have b2 : (j : Int) < (n : Int) := by omega
        clear bt bs bl bt2 tc2 ra
        go_wp2_with fail
        go_region
        all_goals
          go_wp2_with fail
          go_roundw
          case rel => exact ⟨j + 1, _, by omega, by go_num, by rw [HNO.out]; exact BT.out.drew, by rw [HNO.out]; exact BS.out.drew, by rw [HNO.out]; exact BL.out.drew⟩
          case measure => simp [intOf]; omega
      · obtain rfl : j = n := by omega
        have D9 : Hid (Bts wr _ _ _ _ _) := D3.out.below bl (Nat.le_refl _)
        have S9 : Hid (Bts wr _ _ _ _ _) := bs
        have L9 : Hid (Below w3.heap.size w3 wr) := bl
        have RA9 : Hid (Reads .u64 wr a j f) := RF.out.below (L3.out.trans (bl.mono z3))
        have cb := D9.out.cell
        have cs := S9.out.cell
        have RB9 : Hid (Reads .u64 wr (some ⟨w.heap.size, 0, none⟩) j f) := D9.out.own.reads
        have RS9 : Hid (Reads .u64 wr az j f) := S9.out.own.reads
        have zc : w3.heap.size ≤ wr.heap.size := bl.size
        clear bt bs bl
        go_wp2_with fail
        refine Calls.mono (csame_eq RB9.out RA9.out (by omega) (eqB_same rfl fun _ _ => rfl)) ?_
        rintro e w10 ⟨rfl, s10⟩
        have S10 : Hid (Still wr w10) := s10
        have cs10 := (s10.cell ⟨s, 0, none⟩).trans cs
        clear s10 cb cs
        go_wp2_with fail
        refine Calls.mono (csame_eq (S10.out.reads RS9.out) (S10.out.reads RA9.out) (by omega) (eqB_same rfl fun _ _ => rfl)) ?_
        rintro e w11 ⟨rfl, s11⟩
        have S11 : Hid (Still wr w11) := S10.out.trans s11
        clear s11 cs10 S10
        go_wp2_with fail
        go_loopw [14] (fun t wy => ∃ (i : Nat) (G : Nat → Nat), i ≤ j ∧ t = .int .i64 i ∧ Bts wy wc.heap.size s (.slice az j ks) j G ∧ Below wc.heap.size wr wy ∧ Below w3.heap.size w3 wy) (fun t _ => j - (intOf t).toNat)
        case atStart => exact ⟨0, f, by omega, rfl, S9.out.still S11.out, S11.out.below, L9.out.trans S11.out.below⟩
        case round =>
          obtain ⟨i, G, hi, rfl, bt, bl, bl3⟩ := hrel
          by_cases hij : i < j
          · obtain ⟨x, rfl⟩ : ∃ x, az = some ⟨x, 0, none⟩ := by
              rcases bt.own.form with ⟨_, h0⟩ | ⟨x, c, hv, _⟩
              · omega
              · cases hv; exact ⟨x, rfl⟩
            have ra := RF.out.below (L3.out.trans (bl3.mono z3))
            obtain ⟨ba, oa, rfl, ca⟩ := ra i hij
            have c0 := bt.cell
            have c1 := bt.own.cell i hij
            have f1 := bt.own.frozen i
            have HNO : Kept (bits .xor .u64 (if IntKind.u64.signed = true then -1 else IntKind.u64.max) (f i : Int) = (not64 (f i) : Int)) := Kept.mk (u64_not' (f i) (FF.out i))
            obtain ⟨bt2, tc2⟩ := bts_store bt i (not64 (f i)) hij (not64_lt _)
            have hzy : wc.heap.size ≤ wr.heap.size := by have := bt.lt; have := bt.ge; omega
            have BT : Hid (Bts _ _ _ _ _ _) := bt2
            have BL : Hid (Below wc.heap.size _ _) := bl.trans (tc2.below bt (Nat.le_refl _) (by have := bt.lt; have := bt.ge; omega))
            have BL3 : Hid (Below w3.heap.size w3 _) := bl3.trans (tc2.below bt z5 (by have := bl3.size; omega))
            have b1 : (0 : Int) ≤ (i : Int) := by omega
            have b2 : (i : Int) < (j : Int) := by omega
            clear bt bl bl3 bt2 tc2 ra hzy
            go_wp2_with fail
            go_region
            all_goals
              go_wp2_with fail
              go_roundw
              case rel => exact ⟨i + 1, _, by omega, by go_num, by rw [HNO.out]; exact BT.out.drew, by rw [HNO.out]; exact BL.out.drew, by rw [HNO.out]; exact BL3.out.drew⟩
              case measure => simp [intOf]; omega
          · obtain rfl : i = j := by omega
            have D12 : Hid (Bts wr _ _ _ _ _) := D3.out.below bl3 (Nat.le_refl _)
            have cb := D12.out.cell
            have cc : wr.cell? ⟨p + 1, 0, none⟩ = some (.slice (some ⟨w.heap.size, 0, none⟩) m i) := (bl3.cell (p := ⟨p + 1, 0, none⟩) (World.block_lt_of_cell? w3 _ CC.out)).trans CC.out
            have RB : Hid (Reads .u64 wr (some ⟨w.heap.size, 0, none⟩) i f) := D12.out.own.reads
            have RA : Hid (Reads .u64 wr a i f) := RF.out.below (L3.out.trans (bl3.mono z3))
            have LF : Hid (Below w.heap.size w wr) := L3.out.trans (bl3.mono z3)
            clear bt bl bl3
            go_wp2_with fail
            refine Calls.mono (csame_eq RB.out RA.out (by omega) (eqB_same rfl fun _ _ => rfl)) ?_
            rintro e w12 ⟨rfl, s12⟩
            go_wp2_with fail
            go_ret
            exact ⟨rfl, LF.out.trans s12.below⟩
end Go.Proofs.Ymbrcu.CLaws
