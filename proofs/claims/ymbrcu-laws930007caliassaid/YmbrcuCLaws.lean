/-
  THE WALKS OF ccopy, csame AND LawS930007CWords.
-/
import Derived.Test.YmbrcuUnion
import Derived.RegionTactic
import Derived.BigRegion
namespace Go.Proofs.Ymbrcu.CLaws
open Go.RowKit Go.Proofs.Ymbrcu
set_option linter.unusedVariables false

set_option maxRecDepth 100000 in
set_option maxHeartbeats 1000000 in
theorem ccopy_any (a : Option Addr) (n cap : Nat) (f : Nat → Nat) (w : World) (hr : Reads .u64 w a n f) (hn : n ≤ 1048576) :
    Calls Ycum.prog 26 #[.slice a n cap] w fun e w' => e = .returned (.slice (some ⟨w.heap.size, 0, none⟩) n n) ∧ Own 30 .u64 w' w.heap.size (.slice (some ⟨w.heap.size, 0, none⟩) n n) n f ∧ Below w.heap.size w w' := by
  have HR : Hid (Reads .u64 w a n f) := hr
  clear hr
  obtain ⟨x, hx⟩ : ∃ x, w.heap.size = x := ⟨_, rfl⟩
  have HX : Kept (w.heap.size = x) := Kept.mk hx
  rw [hx]
  clear hx
  go_enter Ycum.func26, Ycum.ntmps26
  go_wp2_with (first | (at_make; refine wpList_make _ rfl _ _ 22 rfl 30 .u64 Ycum.underlying22 info_u64 _ _ _ _ n rfl rfl (by omega) (by omega) (by omega) x HX.out ?_))
  intro w1 o1 b1 _ z1
  have O1 : Hid (Own _ _ _ _ _ _ _) := o1
  have B1 : Hid (Below x w w1) := b1
  clear o1 b1 z1
  go_upto_region 2 with fail
  iterate 7 go_step
  refine wpList_copy_full rfl _ _ 22 rfl 30 .u64 Ycum.underlying22 size_u64 x n _ _ rfl rfl x (fun _ => 0) f O1.out (HR.out.below (by rw [HX.out]; exact B1.out)) ?_
  intro w2 o2 b2
  have O2 : Hid (Own _ _ _ _ _ _ _) := o2
  have B2 : Hid (Below x w w2) := B1.out.trans b2
  clear o2 b2 O1 B1
  go_wp2_with fail
  go_ret
  exact ⟨rfl, O2.out, B2.out⟩

set_option maxRecDepth 100000 in
set_option maxHeartbeats 1000000 in
theorem csame_any (a : Option Addr) (n cap : Nat) (f : Nat → Nat) (a' : Option Addr) (m cap' : Nat) (g : Nat → Nat) (w : World)
    (hf : Reads .u64 w a n f) (hg : Reads .u64 w a' m g) (hn : n ≤ 1048576) :
    Calls Ycum.prog 28 #[.slice a n cap, .slice a' m cap'] w fun e w' => e = .returned (.bool (eqB n f m g)) ∧ Still w w' := by
  have HF : Hid (Reads .u64 w a n f) := hf
  have HG : Hid (Reads .u64 w a' m g) := hg
  clear hf hg
  by_cases hnm : n = m
  · subst hnm
    go_enter Ycum.func28, Ycum.ntmps28
    go_wp2_with fail
    go_loopw [5] (fun t wr => ∃ k : Nat, k ≤ n ∧ (∀ i, i < k → f i = g i) ∧ t = .int .i64 k ∧ Still w wr) (fun t _ => n - (intOf t).toNat)
    case atStart => exact ⟨0, by omega, fun i hi => by omega, rfl, Still.refl _⟩
    case round =>
      obtain ⟨k, hk, hs, rfl, hst⟩ := hrel
      have HS : Hid (∀ i, i < k → f i = g i) := hs
      have HST : Hid (Still w wr) := hst
      clear hs hst
      by_cases hlt : k < n
      · obtain ⟨b, off, rfl, hc0⟩ := HF.out k hlt
        obtain ⟨b', off', rfl, hc1⟩ := HG.out k hlt
        have c0 : wr.cell? ⟨b, off + k, none⟩ = some (.int .u64 (f k)) := (HST.out.cell _).trans hc0
        have c1 : wr.cell? ⟨b', off' + k, none⟩ = some (.int .u64 (g k)) := (HST.out.cell _).trans hc1
        have HX : Hid (f k ≠ g k → eqB n f n g = false) := fun h => eqB_diff hlt h
        have HY : Hid (f k = g k → ∀ i, i < k + 1 → f i = g i) := fun h i hi => by
          rcases Nat.lt_or_ge i k with c | c
          · exact HS.out i c
          · rw [show i = k by omega]; exact h
        have b1 : (0 : Int) ≤ (k : Int) := by omega
        have b2 : (k : Int) < (n : Int) := by omega
        clear hc0 hc1
        generalize f k = x at *
        generalize g k = y at *
        by_cases hxy : x = y
        · subst hxy
          have HY2 : Hid (∀ i, i < k + 1 → f i = g i) := HY.out rfl
          clear HX HY
          go_wp2_with fail
          go_quiet (fail)
          go_wp2_with fail
          go_roundw
          case rel => exact ⟨k + 1, by omega, HY2.out, by go_num, HST.out.drewN _⟩
          case measure => simp [intOf]; omega
        · have h1 : ((x : Int) != (y : Int)) = true := by rw [bne_iff_ne]; omega
          go_wp2_with fail
          go_quiet (fail)
          go_wp2_with fail
          go_ret
          exact ⟨ret_bool (HX.out hxy).symm, HST.out.drewN _⟩
      · obtain rfl : k = n := by omega
        go_wp2_with fail
        go_ret
        exact ⟨ret_bool (eqB_same rfl HS.out).symm, HST.out⟩
  · have h1 : ((n : Int) != (m : Int)) = true := by rw [bne_iff_ne]; omega
    go_enter Ycum.func28, Ycum.ntmps28
    go_wp2_with fail
    go_ret
    exact ⟨ret_bool (eqB_len hnm).symm, Still.refl _⟩

theorem csame_eq {a : Option Addr} {n cap : Nat} {f : Nat → Nat} {a' : Option Addr} {m cap' : Nat} {g : Nat → Nat} {w : World} (hf : Reads .u64 w a n f) (hg : Reads .u64 w a' m g) (hn : n ≤ 1048576) {r : Bool} (e : eqB n f m g = r) :
    Calls Ycum.prog 28 #[.slice a n cap, .slice a' m cap'] w fun e w' => e = .returned (.bool r) ∧ Still w w' := e ▸ csame_any a n cap f a' m cap' g w hf hg hn

/-- '^x'. -/
def not64 (x : Nat) : Nat := 18446744073709551615 - x
theorem not64_lt (x : Nat) : not64 x < 18446744073709551616 := by unfold not64; omega
theorem u64_not (x : Nat) (hx : x < 18446744073709551616) : bits .xor .u64 IntKind.u64.max (x : Int) = (not64 x : Int) := by
  show IntKind.u64.wrap ((BitVec.ofInt 64 18446744073709551615 ^^^ BitVec.ofInt 64 (x : Int)).toNat : Int) = _
  have h1 : BitVec.ofInt 64 18446744073709551615 = BitVec.allOnes 64 := by decide
  rw [h1, BitVec.allOnes_xor, BitVec.toNat_not, ofInt_u64 x hx, IntKind.wrap_u64]
  unfold not64
  omega
theorem u64_not' (x : Nat) (hx : x < 18446744073709551616) : bits .xor .u64 (if IntKind.u64.signed = true then -1 else IntKind.u64.max) (x : Int) = (not64 x : Int) := u64_not x hx

set_option maxRecDepth 100000 in
set_option maxHeartbeats 2000000 in
theorem cwords (a a' : Option Addr) (n cap m cap' : Nat) (f g : Nat → Nat) (w : World) (hr : Reads .u64 w a n f) (hf : Fit64 f) (zf : ∀ i, n ≤ i → f i = 0) (hr' : Reads .u64 w a' m g) (hg : Fit64 g) (zg : ∀ i, m ≤ i → g i = 0)
    (hn : n ≤ cap) (hm : cap ≤ maxLen) (hn' : m ≤ cap') (hm' : cap' ≤ maxLen) :
    Calls Ycum.prog 9 #[.slice a n cap, .slice a' m cap'] w fun e w' => e = .returned (.bool true) ∧ Below w.heap.size w w' := by
  unfold maxLen at hm hm'
  by_cases hbig : 1024 < n
  · have d1 : decide ((1024 : Int) < (n : Int)) = true := decide_eq_true (by omega)
    clear hr hr'
    go_enter Ycum.func9, Ycum.ntmps9
    go_wp2_with fail
    go_ret
    exact ⟨rfl, Below.refl _ _⟩
  have d1 : decide ((1024 : Int) < (n : Int)) = false := decide_eq_false (by omega)
  by_cases hbig' : 1024 < m
  · have d2 : decide ((1024 : Int) < (m : Int)) = true := decide_eq_true (by omega)
    clear hr hr'
    go_enter Ycum.func9, Ycum.ntmps9
    go_wp2_with fail
    go_ret
    exact ⟨rfl, Below.refl _ _⟩
  have d2 : decide ((1024 : Int) < (m : Int)) = false := decide_eq_false (by omega)
  have RF : Hid (Reads .u64 w a n f) := hr
  have RG : Hid (Reads .u64 w a' m g) := hr'
  have ZF : Hid (∀ i, n ≤ i → f i = 0) := zf
  have ZG : Hid (∀ i, m ≤ i → g i = 0) := zg
  have FF : Hid (Fit64 f) := hf
  have FG : Hid (Fit64 g) := hg
  have C1 : Hid _ := ccopy_any a n cap f w hr (by omega)
  clear hr hr' hf hg zf zg
  go_enter Ycum.func9, Ycum.ntmps9
  go_wp2_with fail
  refine Calls.mono C1.out ?_
  rintro e w1 ⟨rfl, o1, b1⟩
  have z1 : w.heap.size ≤ w1.heap.size := b1.size
  have D1 : Hid (Bts _ w.heap.size w1.heap.size _ _ _) := bts_box o1 z1 ZF.out FF.out
  have L1 : Hid (Below w.heap.size w _) := b1.alloc z1 (.cells #[.slice (some ⟨w.heap.size, 0, none⟩) n n] 27)
  clear o1 b1
  go_wp2_with fail
  have z2 : w.heap.size ≤ (w1.alloc (.cells #[.slice (some ⟨w.heap.size, 0, none⟩) n n] 27)).heap.size := L1.out.size
  generalize w1.alloc (.cells #[.slice (some ⟨w.heap.size, 0, none⟩) n n] 27) = w2 at *
  generalize w1.heap.size = p at *
  have C2 : Hid _ := ccopy_any a' m cap' g w2 (RG.out.below L1.out) (by omega)
  refine Calls.mono C2.out ?_
  rintro e w3 ⟨rfl, o3, b3⟩
  have z3 : w2.heap.size ≤ w3.heap.size := b3.size
  have D3 : Hid (Bts _ w2.heap.size w3.heap.size _ _ _) := bts_box o3 z3 ZG.out FG.out
  have L3 : Hid (Below w2.heap.size w2 _) := b3.alloc z3 (.cells #[.slice (some ⟨w2.heap.size, 0, none⟩) m m] 27)
  clear o3 b3
  go_wp2_with fail
  have z4 : w2.heap.size ≤ (w3.alloc (.cells #[.slice (some ⟨w2.heap.size, 0, none⟩) m m] 27)).heap.size := L3.out.size
  generalize w3.alloc (.cells #[.slice (some ⟨w2.heap.size, 0, none⟩) m m] 27) = w4 at *
  generalize w3.heap.size = q at *
  have D4 : Hid (Bts _ _ _ _ _ _) := D1.out.below L3.out (Nat.le_refl _)
  have L4 : Hid (Below w.heap.size w w4) := L1.out.trans (L3.out.mono z2)
  clear D1 L1 L3
  refine Calls.mono (union_bts D4.out D3.out (by omega) (by omega)) ?_
  rintro e w5 ⟨r, v, rfl, b5, bel5⟩
  obtain ⟨N, hN⟩ : ∃ N, max n m = N := ⟨_, rfl⟩
  obtain ⟨F, hF⟩ : ∃ F : Nat → Nat, F = fun i => f i ||| g i := ⟨_, rfl⟩
  rw [hN, ← hF] at b5
  have HN : Kept (max n m = N) := Kept.mk hN
  have HF : Kept (∀ i, F i = f i ||| g i) := Kept.mk (fun i => by rw [hF])
  clear hF
  have E5 : Hid (Bts _ _ _ _ _ _) := b5
  have L5 : Hid (Below w4.heap.size w4 w5) := bel5
  have z5 : w.heap.size ≤ w4.heap.size := L4.out.size
  have LW : Hid (Below w.heap.size w w5) := L4.out.trans (bel5.mono z5)
  have cu := b5.cell
  obtain ⟨au, ku, rfl, ru, _, hku, _⟩ := b5.slice
  have RU : Hid (Reads .u64 w5 au N F) := ru
  clear b5 bel5 ru
  go_upto_if 36 with fail
  go_cut [8] (fun t wc => t = .int .i64 N ∧ wc = w5)
  case first =>
    by_cases c : n < m
    · have e1 : N = m := by omega
      subst e1
      go_wp2_with fail
      go_meet
      case rel => exact ⟨rfl, rfl⟩
    · have e1 : N = n := by omega
      subst e1
      go_wp2_with fail
      go_meet
      case rel => exact ⟨rfl, rfl⟩
  case rest =>
    obtain ⟨rfl, rfl⟩ := hcut
    have hNn : n ≤ N := by omega
    have hNm : m ≤ N := by omega
    have hNb : N ≤ 1024 := by omega
    clear hN
    have RF5 : Hid (Reads .u64 wc a n f) := RF.out.below LW.out
    have RG5 : Hid (Reads .u64 wc a' m g) := RG.out.below LW.out
    go_wp2_with fail
    go_loop [9] (fun t => ∃ k : Nat, k ≤ N ∧ t = .int .i64 k) (fun t => N - (intOf t).toNat)
    case atStart => exact ⟨0, by omega, rfl⟩
    case round =>
      obtain ⟨k, hk, rfl⟩ := hrel
      by_cases hlt : k < N
      · obtain ⟨bu, ou, rfl, c0⟩ := RU.out k hlt
        have hFk := HF.out k
        have hfk := FF.out k
        have hgk := FG.out k
        by_cases hkn : k < n
        · obtain ⟨b, off, rfl, c1⟩ := RF5.out k hkn
          by_cases hkm : k < m
          · obtain ⟨b', off', rfl, c2⟩ := RG5.out k hkm
            have hor := u64_or_nat (f k) (g k) hfk hgk
            rw [← hFk] at hor
            clear hFk
            generalize F k = y at *
            go_wp2_with fail
            go_round
            case rel => exact ⟨k + 1, by omega, by go_num⟩
            case measure => simp [intOf]; omega
          · rw [ZG.out k (by omega), Nat.or_zero] at hFk
            rw [hFk] at c0
            clear hFk
            go_wp2_with fail
            go_round
            case rel => exact ⟨k + 1, by omega, by go_num⟩
            case measure => simp [intOf]; omega
        · by_cases hkm : k < m
          · obtain ⟨b', off', rfl, c2⟩ := RG5.out k hkm
            have hor := u64_or_nat 0 (g k) (by omega) hgk
            rw [ZF.out k (by omega)] at hFk
            rw [← hFk] at hor
            have hor' : bits .or .u64 0 (g k : Int) = (F k : Int) := hor
            clear hFk hor
            generalize F k = y at *
            go_wp2_with fail
            go_round
            case rel => exact ⟨k + 1, by omega, by go_num⟩
            case measure => simp [intOf]; omega
          · exfalso
            have := HN.out
            omega
      · obtain rfl : k = N := by omega
        clear RU cu
        go_wp2_with fail
        go_loopw [11] (fun t wr => ∃ (j : Nat) (G : Nat → Nat), j ≤ k ∧ t = .int .i64 j ∧ Bts wr w4.heap.size r (.slice au k ku) k G ∧ Below w4.heap.size w4 wr) (fun t _ => k - (intOf t).toNat)
        case atStart => exact ⟨0, F, by omega, rfl, E5.out, L5.out⟩
        case round =>
          obtain ⟨j, G, hj, rfl, bt, bl⟩ := hrel
          by_cases hjk : j < k
          · obtain ⟨x, rfl⟩ : ∃ x, au = some ⟨x, 0, none⟩ := by
              rcases bt.own.form with ⟨_, h0⟩ | ⟨x, c, hv, _⟩
              · omega
              · cases hv; exact ⟨x, rfl⟩
            have c0 := bt.cell
            have c1 := bt.own.cell j hjk
            have f1 := bt.own.frozen j
            have HNO : Kept (bits .xor .u64 (if IntKind.u64.signed = true then -1 else IntKind.u64.max) (G j : Int) = (not64 (G j) : Int)) := Kept.mk (u64_not' (G j) (bt.fit j))
            obtain ⟨bt2, tc2⟩ := bts_store bt j (not64 (G j)) hjk (not64_lt _)
            have BT : Hid (Bts _ _ _ _ _ _) := bt2
            have BL : Hid (Below w4.heap.size w4 _) := bl.trans (tc2.below bt (Nat.le_refl _) bl.size)
            have b1 : (0 : Int) ≤ (j : Int) := by omega
            have b2 : (j : Int) < (k : Int) := by omega
            clear bt bl bt2 tc2
            go_wp2_with fail
            go_region
            all_goals
              go_wp2_with fail
              go_roundw
              case rel => exact ⟨j + 1, _, by omega, by go_num, by rw [HNO.out]; exact BT.out.drew, by rw [HNO.out]; exact BL.out.drew⟩
              case measure => simp [intOf]; omega
          · obtain rfl : j = k := by omega
            have DB : Hid (Bts _ _ _ _ _ _) := D4.out.below bl (Nat.le_refl _)
            have DC : Hid (Bts _ _ _ _ _ _) := D3.out.below bl (Nat.le_refl _)
            have cb := DB.out.cell
            have cc := DC.out.cell
            have rb : Hid (Reads .u64 wr (some ⟨w.heap.size, 0, none⟩) n f) := DB.out.own.reads
            have rc : Hid (Reads .u64 wr (some ⟨w2.heap.size, 0, none⟩) m g) := DC.out.own.reads
            have LF : Hid (Below w.heap.size w wr) := L4.out.trans (bl.mono z5)
            have ra : Hid (Reads .u64 wr a n f) := RF.out.below LF.out
            have ra' : Hid (Reads .u64 wr a' m g) := RG.out.below LF.out
            clear bt bl DB DC
            go_wp2_with fail
            refine Calls.mono (csame_eq rb.out ra.out (by omega) (eqB_same rfl fun _ _ => rfl)) ?_
            rintro e w6 ⟨rfl, s6⟩
            have cc6 := (s6.cell ⟨q, 0, none⟩).trans cc
            have S6 : Hid (Still wr w6) := s6
            clear cb cc s6
            go_wp2_with fail
            refine Calls.mono (csame_eq (S6.out.reads rc.out) (S6.out.reads ra'.out) (by omega) (eqB_same rfl fun _ _ => rfl)) ?_
            rintro e w7 ⟨rfl, s7⟩
            go_wp2_with fail
            go_ret
            exact ⟨rfl, (LF.out.trans S6.out.below).trans s7.below⟩
end Go.Proofs.Ymbrcu.CLaws
