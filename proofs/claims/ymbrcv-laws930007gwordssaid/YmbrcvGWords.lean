/-
  THE WALKS OF gat AND LawS930007GWords.
-/
import Derived.Test.YmbrcvInter
import Derived.Test.YmbrcvSameV
import Derived.Test.YmbrcvCopyV
namespace Go.Proofs.Ymbrcv.GLaws
open Go.RowKit Go.Proofs.Ymbrcv
set_option linter.unusedVariables false

set_option maxHeartbeats 1000000 in
theorem gat_any (a : Option Addr) (n cap : Nat) (f : Nat → Nat) (k : Nat) (w : World) (hr : Reads .u64 w a n f) (hz : ∀ i, n ≤ i → f i = 0) (hn : n ≤ 1048576) :
    Calls Ycvm.prog 22 #[.slice a n cap, .int .i64 k] w fun e w' => e = .returned (.int .u64 (f k)) ∧ w' = w := by
  by_cases hk : k < n
  · obtain ⟨b, off, rfl, hc⟩ := hr k hk
    clear hr hz
    go_enter Ycvm.func22, Ycvm.ntmps22
    go_wp2_with fail
    go_ret
    exact ⟨rfl, rfl⟩
  · have h0 : f k = 0 := hz k (by omega)
    rw [h0]
    clear hr hz h0
    go_enter Ycvm.func22, Ycvm.ntmps22
    go_wp2_with fail
    go_ret
    exact ⟨rfl, rfl⟩

theorem gat_eq {a : Option Addr} {n cap : Nat} {f : Nat → Nat} {k : Nat} {w : World} (hr : Reads .u64 w a n f) (hz : ∀ i, n ≤ i → f i = 0) (hn : n ≤ 1048576) {y : Nat} (e : f k = y) :
    Calls Ycvm.prog 22 #[.slice a n cap, .int .i64 k] w fun e w' => e = .returned (.int .u64 y) ∧ w' = w := e ▸ gat_any a n cap f k w hr hz hn

/-- '^x'. -/
def not64 (x : Nat) : Nat := 18446744073709551615 - x
theorem not64_lt (x : Nat) : not64 x < 18446744073709551616 := by unfold not64; omega
theorem u64_not' (x : Nat) (hx : x < 18446744073709551616) : bits .xor .u64 (if IntKind.u64.signed = true then -1 else IntKind.u64.max) (x : Int) = (not64 x : Int) := by
  show IntKind.u64.wrap ((BitVec.ofInt 64 18446744073709551615 ^^^ BitVec.ofInt 64 (x : Int)).toNat : Int) = _
  have h1 : BitVec.ofInt 64 18446744073709551615 = BitVec.allOnes 64 := by decide
  rw [h1, BitVec.allOnes_xor, BitVec.toNat_not, ofInt_u64 x hx, IntKind.wrap_u64]
  unfold not64
  omega

set_option maxRecDepth 100000 in
set_option maxHeartbeats 2000000 in
theorem gwords (a a' : Option Addr) (n cap m cap' : Nat) (f g : Nat → Nat) (w : World) (hr : Reads .u64 w a n f) (hf : Fit64 f) (zf : ∀ i, n ≤ i → f i = 0) (hr' : Reads .u64 w a' m g) (hg : Fit64 g) (zg : ∀ i, m ≤ i → g i = 0)
    (hn : n ≤ cap) (hm : cap ≤ maxLen) (hn' : m ≤ cap') (hm' : cap' ≤ maxLen) :
    Calls Ycvm.prog 9 #[.slice a n cap, .slice a' m cap'] w fun e w' => e = .returned (.bool true) ∧ Below w.heap.size w w' := by
  unfold maxLen at hm hm'
  by_cases hbig : 1024 < n
  · have d1 : decide ((1024 : Int) < (n : Int)) = true := decide_eq_true (by omega)
    clear hr hr'
    go_enter Ycvm.func9, Ycvm.ntmps9
    go_wp2_with fail
    go_ret
    exact ⟨rfl, Below.refl _ _⟩
  have d1 : decide ((1024 : Int) < (n : Int)) = false := decide_eq_false (by omega)
  by_cases hbig' : 1024 < m
  · have d2 : decide ((1024 : Int) < (m : Int)) = true := decide_eq_true (by omega)
    clear hr hr'
    go_enter Ycvm.func9, Ycvm.ntmps9
    go_wp2_with fail
    go_ret
    exact ⟨rfl, Below.refl _ _⟩
  have d2 : decide ((1024 : Int) < (m : Int)) = false := decide_eq_false (by omega)
  have RF : Hid (Reads .u64 w a n f) := hr
  have RG : Hid (Reads .u64 w a' m g) := hr'
  have ZF : Hid (∀ i, n ≤ i → f i = 0) := zf
  have ZG : Hid (∀ i, m ≤ i → g i = 0) := zg
  have FF : Hid (Fit64 f) := hf
  have FG : Hid (Fit64 g) := hg
  have C1 : Hid _ := gcopy_any a n cap f w hr (by omega) hn
  clear hr hr' hf hg zf zg
  go_enter Ycvm.func9, Ycvm.ntmps9
  go_wp2_with fail
  refine Calls.mono C1.out ?_
  rintro e w1 ⟨v1, rfl, o1, b1, z1⟩
  obtain ⟨a1, k1, rfl, _⟩ := o1.slice
  have D1 : Hid (Bts _ w.heap.size w1.heap.size _ _ _) := bts_box o1 z1 ZF.out FF.out
  have L1 : Hid (Below w.heap.size w _) := b1.alloc z1 (.cells #[.slice a1 n k1] 28)
  clear o1 b1
  go_wp2_with fail
  have z2 : w.heap.size ≤ (w1.alloc (.cells #[.slice a1 n k1] 28)).heap.size := L1.out.size
  generalize w1.alloc (.cells #[.slice a1 n k1] 28) = w2 at *
  generalize w1.heap.size = p at *
  have C2 : Hid _ := gcopy_any a' m cap' g w2 (RG.out.below L1.out) (by omega) hn'
  refine Calls.mono C2.out ?_
  rintro e w3 ⟨v3, rfl, o3, b3, z3⟩
  obtain ⟨a3, k3, rfl, _⟩ := o3.slice
  have D3 : Hid (Bts _ w2.heap.size w3.heap.size _ _ _) := bts_box o3 z3 ZG.out FG.out
  have L3 : Hid (Below w2.heap.size w2 _) := b3.alloc z3 (.cells #[.slice a3 m k3] 28)
  clear o3 b3
  go_wp2_with fail
  have z4 : w2.heap.size ≤ (w3.alloc (.cells #[.slice a3 m k3] 28)).heap.size := L3.out.size
  generalize w3.alloc (.cells #[.slice a3 m k3] 28) = w4 at *
  generalize w3.heap.size = q at *
  have D4 : Hid (Bts _ _ _ _ _ _) := D1.out.below L3.out (Nat.le_refl _)
  have L4 : Hid (Below w.heap.size w w4) := L1.out.trans (L3.out.mono z2)
  clear D1 L1 L3
  refine Calls.mono (inter_bts D4.out D3.out (by omega) (by omega)) ?_
  rintro e w5 ⟨r, v, rfl, b5, bel5⟩
  obtain ⟨F, hF⟩ : ∃ F : Nat → Nat, F = fun i => f i &&& g i := ⟨_, rfl⟩
  obtain ⟨M, hM⟩ : ∃ M, tl F (min n m) = M := ⟨_, rfl⟩
  rw [← hF, hM] at b5
  have HF : Kept (∀ i, F i = f i &&& g i) := Kept.mk (fun i => by rw [hF])
  have hMn : M ≤ n := by rw [← hM]; have := tl_le F (min n m); omega
  have hMm : M ≤ m := by rw [← hM]; have := tl_le F (min n m); omega
  have HL : Kept (0 < M → F (M - 1) ≠ 0) := Kept.mk (fun h => by rw [← hM] at h ⊢; exact tl_last F _ h)
  clear hF hM
  have E5 : Hid (Bts _ _ _ _ _ _) := b5
  have L5 : Hid (Below w4.heap.size w4 w5) := bel5
  have z5 : w.heap.size ≤ w4.heap.size := L4.out.size
  have LW : Hid (Below w.heap.size w w5) := L4.out.trans (bel5.mono z5)
  have cu := b5.cell
  have HFZ : Hid (∀ i, M ≤ i → F i = 0) := b5.zero
  obtain ⟨au, ku, rfl, ru, _, hku, _⟩ := b5.slice
  have RU : Hid (Reads .u64 w5 au M F) := ru
  have RF5 : Hid (Reads .u64 w5 a n f) := RF.out.below LW.out
  have RG5 : Hid (Reads .u64 w5 a' m g) := RG.out.below LW.out
  clear b5 bel5 ru
  have d3 : decide ((n : Int) < (M : Int)) = false := decide_eq_false (by omega)
  have d4 : decide ((m : Int) < (M : Int)) = false := decide_eq_false (by omega)
  go_upto_region 9 with fail
  go_cut [57] (fun t wc => t = .bool false ∧ wc = w5)
  case first =>
    rcases Nat.eq_zero_or_pos M with hM0 | hM0
    · have d5 : decide ((0 : Int) < (M : Int)) = false := decide_eq_false (by omega)
      go_wp2_with fail
      go_meet
      case rel => exact ⟨rfl, rfl⟩
    · obtain ⟨bu, ou, rfl, c0⟩ := RU.out (M - 1) (by omega)
      have hne : ((F (M - 1) : Int) == 0) = false := beq_eq_false_iff_ne.2 (by have := HL.out hM0; omega)
      have d5 : decide ((0 : Int) < (M : Int)) = true := decide_eq_true (by omega)
      generalize F (M - 1) = y at *
      go_wp2_with fail
      go_meet
      case rel => exact ⟨rfl, rfl⟩
  case rest =>
    obtain ⟨rfl, rfl⟩ := hcut
    clear HL
    go_wp2_with fail
    go_loop [9] (fun t => ∃ k : Nat, k ≤ 1024 ∧ t = .int .i64 k) (fun t => 1024 - (intOf t).toNat)
    case atStart => exact ⟨0, by omega, rfl⟩
    case round =>
      obtain ⟨k, hk, rfl⟩ := hrel
      have HAN : Kept (bits .and .u64 (f k : Int) (g k : Int) = (F k : Int)) := Kept.mk (by rw [HF.out]; exact u64_and_nat _ _ (FF.out k) (FG.out k))
      obtain ⟨yf, hyf⟩ : ∃ yf, f k = yf := ⟨_, rfl⟩
      obtain ⟨yg, hyg⟩ : ∃ yg, g k = yg := ⟨_, rfl⟩
      obtain ⟨yF, hyF⟩ : ∃ yF, F k = yF := ⟨_, rfl⟩
      rw [hyf, hyg, hyF] at HAN
      have han := HAN.out
      have K1 : Hid (∀ wx, Still wc wx → Calls Ycvm.prog 22 #[.slice a n cap, .int .i64 k] wx fun e w' => e = .returned (.int .u64 yf) ∧ w' = wx) := fun wx hx => gat_eq (hx.reads RF5.out) ZF.out (by omega) hyf
      have K2 : Hid (∀ wx, Still wc wx → Calls Ycvm.prog 22 #[.slice a' m cap', .int .i64 k] wx fun e w' => e = .returned (.int .u64 yg) ∧ w' = wx) := fun wx hx => gat_eq (hx.reads RG5.out) ZG.out (by omega) hyg
      have K3 : Hid (∀ wx, Still wc wx → Calls Ycvm.prog 22 #[.slice au M ku, .int .i64 k] wx fun e w' => e = .returned (.int .u64 yF) ∧ w' = wx) := fun wx hx => gat_eq (hx.reads RU.out) HFZ.out (by omega) hyF
      clear hyf hyg hyF
      by_cases c1 : k < n
      · have e1 : decide ((k : Int) < (n : Int)) = true := decide_eq_true (by omega)
        go_wp2_with fail
        refine Calls.mono (K3.out _ (Still.refl _)) ?_
        rintro e wx ⟨rfl, rfl⟩
        go_wp2_with fail
        refine Calls.mono (K1.out _ (Still.refl _)) ?_
        rintro e wx ⟨rfl, rfl⟩
        go_wp2_with fail
        refine Calls.mono (K2.out _ (Still.refl _)) ?_
        rintro e wx ⟨rfl, rfl⟩
        go_wp2_with fail
        go_round
        case rel => exact ⟨k + 1, by omega, by go_num⟩
        case measure => simp [intOf]; omega
      · have e1 : decide ((k : Int) < (n : Int)) = false := decide_eq_false (by omega)
        by_cases c2 : k < m
        · have e2 : decide ((k : Int) < (m : Int)) = true := decide_eq_true (by omega)
          go_wp2_with fail
          refine Calls.mono (K3.out _ (Still.refl _)) ?_
          rintro e wx ⟨rfl, rfl⟩
          go_wp2_with fail
          refine Calls.mono (K1.out _ (Still.refl _)) ?_
          rintro e wx ⟨rfl, rfl⟩
          go_wp2_with fail
          refine Calls.mono (K2.out _ (Still.refl _)) ?_
          rintro e wx ⟨rfl, rfl⟩
          go_wp2_with fail
          go_round
          case rel => exact ⟨k + 1, by omega, by go_num⟩
          case measure => simp [intOf]; omega
        · have e2 : decide ((k : Int) < (m : Int)) = false := decide_eq_false (by omega)
          clear K1 K2 K3 HAN han RU cu
          go_wp2_with fail
          go_loopw [10] (fun t wr => ∃ (j : Nat) (G : Nat → Nat), j ≤ M ∧ t = .int .i64 j ∧ Bts wr w4.heap.size r (.slice au M ku) M G ∧ Below w4.heap.size w4 wr) (fun t _ => M - (intOf t).toNat)
          case atStart => exact ⟨0, F, by omega, rfl, E5.out, L5.out⟩
          case round =>
            obtain ⟨j, G, hj, rfl, bt, bl⟩ := hrel
            by_cases hjk : j < M
            · obtain ⟨x, rfl⟩ : ∃ x, au = some ⟨x, 0, none⟩ := by
                rcases bt.own.form with ⟨_, h0⟩ | ⟨x, c, hv, _⟩
                · omega
                · cases hv; exact ⟨x, rfl⟩
              have c0 := bt.cell
              have c1 := bt.own.cell j hjk
              have f1 := bt.own.frozen j
              have HNO : Kept (bits .xor .u64 (if IntKind.u64.signed = true then -1 else IntKind.u64.max) (G j : Int) = (not64 (G j) : Int)) := Kept.mk (u64_not' (G j) (bt.fit j))
              obtain ⟨bt2, tc2⟩ := bts_store bt j (not64 (G j)) hjk (not64_lt _)
              have BT : Hid (Bts _ _ _ _ _ _) := bt2
              have BL : Hid (Below w4.heap.size w4 _) := bl.trans (tc2.below bt (Nat.le_refl _) bl.size)
              have b1 : (0 : Int) ≤ (j : Int) := by omega
              have b2 : (j : Int) < (M : Int) := by omega
              clear bt bl bt2 tc2
              go_wp2_with fail
              go_region
              all_goals
                go_wp2_with fail
                go_roundw
                case rel => exact ⟨j + 1, _, by omega, by go_num, by rw [HNO.out]; exact BT.out.drew, by rw [HNO.out]; exact BL.out.drew⟩
                case measure => simp [intOf]; omega
            · obtain rfl : j = M := by omega
              have DB : Hid (Bts wr _ _ _ _ _) := D4.out.below bl (Nat.le_refl _)
              have DC : Hid (Bts wr _ _ _ _ _) := D3.out.below bl (Nat.le_refl _)
              have cb := DB.out.cell
              have cc := DC.out.cell
              have rb : Hid (Reads .u64 wr a1 n f) := DB.out.own.reads
              have rc : Hid (Reads .u64 wr a3 m g) := DC.out.own.reads
              have LF : Hid (Below w.heap.size w wr) := L4.out.trans (bl.mono z5)
              have ra : Hid (Reads .u64 wr a n f) := RF.out.below LF.out
              have ra' : Hid (Reads .u64 wr a' m g) := RG.out.below LF.out
              clear bt bl DB DC
              go_wp2_with fail
              refine Calls.mono (gsame_eq rb.out ra.out (by omega) (eqB_same rfl fun _ _ => rfl)) ?_
              rintro e w6 ⟨rfl, s6⟩
              have cc6 := (s6.cell ⟨q, 0, none⟩).trans cc
              have S6 : Hid (Still wr w6) := s6
              clear cb cc s6
              go_wp2_with fail
              refine Calls.mono (gsame_eq (S6.out.reads rc.out) (S6.out.reads ra'.out) (by omega) (eqB_same rfl fun _ _ => rfl)) ?_
              rintro e w7 ⟨rfl, s7⟩
              go_wp2_with fail
              go_ret
              exact ⟨rfl, (LF.out.trans S6.out.below).trans s7.below⟩
end Go.Proofs.Ymbrcv.GLaws
