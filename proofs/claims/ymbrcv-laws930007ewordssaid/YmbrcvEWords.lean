/-
  THE WALK OF LawS930007EWords.
-/
import Derived.Test.YmbrcvFrom
import Derived.Test.YmbrcvSameV
import Derived.RegionTactic
import Derived.BigRegion
namespace Go.Proofs.Ymbrcv.ELaws
open Go.RowKit Go.Proofs.Ymbrcv
set_option linter.unusedVariables false

/-- What EWords makes of a raw number. -/
def ew37 (x : Nat) : Nat := x * 37 % 1048576
theorem ew37_lt (x : Nat) : ew37 x < 1048576 := Nat.mod_lt _ (by omega)
theorem ew37_eq (x : Nat) : bits .and .u32 ((x : Int) * 37 % 4294967296) 1048575 = (ew37 x : Int) := by
  have e1 : ((x : Int) * 37 % 4294967296) = ((x * 37 % 4294967296 : Nat) : Int) := by omega
  rw [e1]
  have h := u32_and_nat (x * 37 % 4294967296) 1048575 (by omega) (by omega)
  have e2 : x * 37 % 4294967296 &&& 1048575 = ew37 x := by
    have := Nat.and_two_pow_sub_one_eq_mod (x * 37 % 4294967296) 20
    unfold ew37
    simp only [Nat.reducePow, Nat.reduceSub] at this
    rw [this]
    omega
  rw [e2] at h
  exact h
theorem ew37_wrap (x : Nat) : bits .and .u32 (IntKind.u32.wrap ((x : Int) * 37)) 1048575 = (ew37 x : Int) := by
  rw [IntKind.wrap_u32']
  exact ew37_eq x

theorem and_63 (i : Nat) (h : i < 1048576) : bits .and .i64 (i : Int) 63 = (i : Int) % 64 := by
  show IntKind.i64.wrap ((BitVec.ofInt 64 (i : Int) &&& BitVec.ofInt 64 63).toNat : Int) = _
  have h1 : (BitVec.ofInt 64 (i : Int)).toNat = i := ofInt_u64 i (by omega)
  have h2 : (BitVec.ofInt 64 63).toNat = 63 := by decide
  have h3 : i &&& 63 = i % 64 := by
    have := Nat.and_two_pow_sub_one_eq_mod i 6
    simpa using this
  rw [BitVec.toNat_and, h1, h2, h3, IntKind.wrap_i64]
  omega

/-- One number more. -/
theorem fn_nat {h : Nat → Nat} (hh : ∀ i, h i < 1048576) (k : Nat) : fn (fun i => (h i : Int)) (k + 1) = max (fn (fun i => (h i : Int)) k) (h k / 64 + 1) := by
  show setN _ (h k : Int) = _
  unfold setN
  rw [if_pos (inR_nat (hh k)), Int.toNat_natCast]
theorem fe_nat {h : Nat → Nat} (hh : ∀ i, h i < 1048576) (k : Nat) : fe (fun i => (h i : Int)) (k + 1) = setf (fe (fun i => (h i : Int)) k) (h k) := by
  show setI _ (h k : Int) = _
  unfold setI
  rw [if_pos (inR_nat (hh k)), Int.toNat_natCast]
theorem fn_mono {h : Nat → Nat} (hh : ∀ i, h i < 1048576) (k n : Nat) (hk : k < n) : h k / 64 + 1 ≤ fn (fun i => (h i : Int)) n := by
  induction n with
  | zero => omega
  | succ n ih =>
    rw [fn_nat hh]
    rcases Nat.lt_or_ge k n with c | c
    · have := ih c; omega
    · rw [show k = n by omega]; omega
theorem fe_fit (g : Nat → Int) (k : Nat) : Fit64 (fe g k) := by
  induction k with
  | zero => intro i; show (0 : Nat) < _; omega
  | succ k ih =>
    show Fit64 (setI _ _)
    unfold setI
    split
    · exact setf_fit ih _
    · exact ih

set_option maxRecDepth 100000 in
set_option maxHeartbeats 2000000 in
theorem ewords (a : Option Addr) (n cap : Nat) (f : Nat → Nat) (w : World) (hr : Reads .u32 w a n f) (hf : ∀ i, f i < 4294967296) (hn : n ≤ cap) (hm : cap ≤ maxLen) :
    Calls Ycvm.prog 4 #[.slice a n cap] w fun e w' => e = .returned (.bool true) ∧ Below w.heap.size w w' := by
  unfold maxLen at hm
  by_cases hbig : 1024 < n
  · clear hr
    go_enter Ycvm.func4, Ycvm.ntmps4
    go_wp2_with fail
    go_ret
    exact ⟨rfl, Below.refl _ _⟩
  have d0 : decide ((1024 : Int) < (n : Int)) = false := decide_eq_false (by omega)
  have HR : Hid (Reads .u32 w a n f) := hr
  have HF : Hid (∀ i, f i < 4294967296) := hf
  clear hr hf
  obtain ⟨h, hh⟩ : ∃ h : Nat → Nat, h = fun i => ew37 (f i) := ⟨_, rfl⟩
  have HE : Hid (∀ i, bits .and .u32 ((f i : Int) * 37 % 4294967296) 1048575 = (h i : Int)) := fun i => by rw [hh]; exact ew37_eq (f i)
  have HE2 : Hid (∀ i, bits .and .u32 (IntKind.u32.wrap ((f i : Int) * 37)) 1048575 = (h i : Int)) := fun i => by rw [hh]; exact ew37_wrap (f i)
  have HL : Hid (∀ i, h i < 1048576) := fun i => by rw [hh]; exact ew37_lt _
  clear hh
  have HNS : Kept (∀ k, fn (fun i => (h i : Int)) (k + 1) = max (fn (fun i => (h i : Int)) k) (h k / 64 + 1)) := Kept.mk (fn_nat HL.out)
  obtain ⟨g, hg⟩ : ∃ g, w.heap.size = g := ⟨_, rfl⟩
  have HG : Hid (w.heap.size = g) := hg
  rw [hg]
  clear hg
  go_enter Ycvm.func4, Ycvm.ntmps4
  go_wp2_with (first | (at_make; refine wpList_make _ rfl _ _ 22 rfl 3 .i64 Ycvm.underlying22 info_int _ _ _ _ n rfl rfl (by omega) (by omega) (by omega) g HG.out ?_))
  intro w1 o1 b1 _ z1
  have O1 : Hid (Own _ _ _ _ _ _ _) := o1
  clear o1 z1
  go_wp2_with fail
  go_loopw [4, 5] (fun c t wr => ∃ k : Nat, k ≤ n ∧ t = .int .i64 k ∧ c = .int .i64 (fn (fun i => (h i : Int)) k) ∧ Own 3 .i64 wr g (.slice (some ⟨g, 0, none⟩) n n) n (upto h k) ∧ Below g w wr) (fun _ t _ => n - (intOf t).toNat)
  case atStart => exact ⟨0, by omega, rfl, rfl, by rw [upto_zero]; exact O1.out, b1⟩
  case round =>
    clear O1 b1
    obtain ⟨k, hk, rfl, rfl, o1, hb⟩ := hrel
    have hfl := fn_le (fun i => (h i : Int)) k
    by_cases hlt : k < n
    · obtain ⟨b, off, rfl, hc⟩ := HR.out k hlt
      have hbg : b < g := by rw [← HG.out]; exact World.block_lt_of_cell? w _ hc
      have c0 : wr.cell? ⟨b, off + k, none⟩ = some (.int .u32 (f k)) := (hb.cell (p := ⟨b, off + k, none⟩) hbg).trans hc
      have c1 := o1.cell k (by omega)
      have f1 := o1.frozen k
      have R1 : Hid (Own _ _ _ _ _ _ _) := o1.set k (h k)
      have R3 : Hid (Below _ _ _) := hb.setCell (p := ⟨g, k, none⟩) (Nat.le_refl _) (.int .i64 (h k))
      have HU : Hid (upd (upto h k) k (h k) = upto h (k + 1)) := upto_succ h k
      have HS : Kept (fn (fun i => (h i : Int)) (k + 1) = max (fn (fun i => (h i : Int)) k) (h k / 64 + 1)) := Kept.mk (HNS.out k)
      have hek := HE.out k
      have hek2 := HE2.out k
      have hlk := HL.out k
      have hfk := HF.out k
      generalize fn (fun i => (h i : Int)) k = N at *
      generalize h k = y at *
      clear o1 hb hc
      by_cases hy : N < y / 64 + 1
      · have d1 : decide ((N : Int) < (y : Int) / 64 + 1) = true := decide_eq_true (by omega)
        go_wp2_with fail
        go_roundw
        case rel => exact ⟨k + 1, by omega, by go_num, by rw [HS.out, Nat.max_eq_right (by omega)]; go_num, by rw [← HU.out]; exact R1.out, R3.out⟩
        case measure => simp [intOf]; omega
      · have d1 : decide ((N : Int) < (y : Int) / 64 + 1) = false := decide_eq_false (by omega)
        go_wp2_with fail
        go_roundw
        case rel => exact ⟨k + 1, by omega, by go_num, by rw [HS.out, Nat.max_eq_left (by omega)], by rw [← HU.out]; exact R1.out, R3.out⟩
        case measure => simp [intOf]; omega
    · obtain rfl : k = n := by omega
      have R1 : Hid (Own _ _ _ _ _ _ h) := o1.congr fun i hi => by unfold upto; rw [if_pos hi]
      have R3 : Hid (Below g w wr) := hb
      have hgz : g ≤ wr.heap.size := by rw [← HG.out]; exact hb.size
      have HMO : Kept (∀ i, i < k → h i / 64 + 1 ≤ fn (fun i => (h i : Int)) k) := Kept.mk (fun i hi => fn_mono HL.out i k hi)
      have HFS : Kept (∀ i, fe (fun i => (h i : Int)) (i + 1) = setf (fe (fun i => (h i : Int)) i) (h i)) := Kept.mk (fe_nat HL.out)
      have HFF : Hid (∀ i, Fit64 (fe (fun i => (h i : Int)) i)) := fe_fit _
      obtain ⟨N, hN⟩ : ∃ N, fn (fun i => (h i : Int)) k = N := ⟨_, rfl⟩
      have HN : Kept (fn (fun i => (h i : Int)) k = N) := Kept.mk hN
      rw [hN] at hfl HMO
      rw [hN]
      clear o1 hb hN
      go_wp2_with (first | (at_make; refine wpList_make _ rfl _ _ 26 rfl 33 .u64 Ycvm.underlying26 info_u64 _ _ _ _ N rfl rfl (by omega) (by omega) (by omega) wr.heap.size rfl ?_))
      intro w2 o2 b2 _ z2
      have O2 : Hid (Own _ _ _ _ _ _ _) := o2
      have L2 : Hid (Below wr.heap.size wr w2) := b2
      clear o2 b2 z2
      obtain ⟨x, hx⟩ : ∃ x, wr.heap.size = x := ⟨_, rfl⟩
      have HX : Kept (wr.heap.size = x) := Kept.mk hx
      rw [hx] at O2 L2 hgz
      rw [hx]
      obtain ⟨wo, hwo⟩ : ∃ wo, wo = wr := ⟨_, rfl⟩
      rw [← hwo] at L2 R1 R3 HX
      clear hx hwo
      go_wp2_with fail
      go_loopw [8] (fun t wr => ∃ i : Nat, i ≤ k ∧ t = .int .i64 i ∧ Own 33 .u64 wr x (.slice (some ⟨x, 0, none⟩) N N) N (fe (fun i => (h i : Int)) i) ∧ Below x wo wr) (fun t _ => k - (intOf t).toNat)
      case atStart => exact ⟨0, by omega, rfl, O2.out, L2.out⟩
      case round =>
        clear O2 L2
        obtain ⟨i, hi, rfl, o3, b3⟩ := hrel
        by_cases hik : i < k
        · have c0 := (R1.out.below b3 (by rw [HX.out]; exact Nat.le_refl _)).cell i hik
          have hlk := HL.out i
          have hNi := HMO.out i hik
          have c1 := o3.cell (h i / 64) (by omega)
          have f1 := o3.frozen (h i / 64)
          have hor := or_pow (fe (fun i => (h i : Int)) i (h i / 64)) (h i % 64) (HFF.out i _) (by omega)
          have hwp := wrap_pow' (h i % 64) (by omega)
          have ha := and_63 (h i) hlk
          have Q1 : Hid (Own _ _ _ _ _ _ (setf (fe (fun i => (h i : Int)) i) (h i))) := o3.set (h i / 64) (fe (fun i => (h i : Int)) i (h i / 64) ||| 2 ^ (h i % 64))
          have Q3 : Hid (Below x wo _) := b3.setCell (p := ⟨x, h i / 64, none⟩) (Nat.le_refl _) (.int .u64 ((fe (fun i => (h i : Int)) i (h i / 64) ||| 2 ^ (h i % 64) : Nat) : Int))
          rw [← HFS.out i] at Q1
          have b1 : (0 : Int) ≤ (i : Int) := by omega
          have b2 : (i : Int) < (k : Int) := by omega
          have b4 : (0 : Int) ≤ (h i : Int) / 64 := by omega
          have b5 : (h i : Int) / 64 < (N : Int) := by omega
          clear o3 b3
          go_wp2_with fail
          go_region
          all_goals
            go_wp2_with fail
            go_roundw
            case rel => exact ⟨i + 1, by omega, by go_num, Q1.out.keep fun _ _ => rfl, Q3.out.drew⟩
            case measure => simp [intOf]; omega
        · obtain rfl : i = k := by omega
          have XS : Hid (Own _ _ _ _ _ _ _) := R1.out.below b3 (by rw [HX.out]; exact Nat.le_refl _)
          have WN : Hid (Own _ _ _ _ _ _ _) := o3
          have LW : Hid (Below g w wr) := R3.out.trans (b3.mono hgz)
          have hgw : g ≤ wr.heap.size := by rw [← HG.out]; exact LW.out.size
          clear o3 b3
          have CF : Hid _ := from_ok (cap := i) XS.out.reads.toI (by unfold maxLen; omega) (fun j _ => inR_nat (HL.out j))
          go_wp2_with fail
          refine Calls.mono CF.out ?_
          rintro e w5 ⟨p, v, rfl, b5, bel5⟩
          have W5 : Hid (Below g w w5) := LW.out.trans (bel5.mono hgw)
          have RW : Hid (Reads .u64 w5 (some ⟨x, 0, none⟩) N (fe (fun i => (h i : Int)) i)) := (WN.out.below bel5 (Nat.le_refl _)).reads
          have cb := b5.cell
          obtain ⟨a5, c5, rfl, rb, _⟩ := b5.slice
          have RB : Hid (Reads .u64 w5 a5 (fn (fun i => (h i : Int)) i) (fe (fun i => (h i : Int)) i)) := rb
          rw [HN.out] at RB cb
          clear b5 bel5 rb
          go_wp2_with fail
          refine Calls.mono (eeq_eq RB.out RW.out (by omega) (eqB_same rfl fun _ _ => rfl)) ?_
          rintro e w6 ⟨rfl, s6⟩
          go_wp2_with fail
          go_ret
          exact ⟨rfl, W5.out.trans s6.below⟩
end Go.Proofs.Ymbrcv.ELaws
