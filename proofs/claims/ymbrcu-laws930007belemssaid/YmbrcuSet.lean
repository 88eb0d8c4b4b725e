/-
  THE WALKS OF (*Bits).Set AND (*Bits).Has.
-/
import Derived.Test.YmbrcuBits
import Derived.Deep.QuietTactic
import Derived.BigQuiet
import Derived.Deep.DeepCutAuto
namespace Go.Proofs.Ymbrcu
open Go.RowKit
set_option linter.unusedVariables false

/-- The words with the bit of i set. -/
def setf (f : Nat → Nat) (i : Nat) : Nat → Nat := upd f (i / 64) (f (i / 64) ||| 2 ^ (i % 64))

theorem pow_lt64 (j : Nat) (h : j < 64) : 2 ^ j < 18446744073709551616 := by
  have : 2 ^ j < 2 ^ 64 := Nat.pow_lt_pow_of_lt (by omega) h
  simpa using this

theorem wrap_pow (j : Nat) (h : j < 64) : IntKind.u64.wrap (2 ^ j) = ((2 ^ j : Nat) : Int) := by
  have := pow_lt64 j h
  rw [IntKind.wrap_u64]
  have e : ((2 : Int) ^ j) = ((2 ^ j : Nat) : Int) := by simp
  rw [e]
  generalize 2 ^ j = c at *
  omega

theorem pow_cast (j : Nat) : ((2 : Int) ^ j) = ((2 ^ j : Nat) : Int) := by simp
theorem wrap_pow' (j : Nat) (h : j < 64) : IntKind.u64.wrap (2 ^ j) = 2 ^ j := by rw [wrap_pow j h, pow_cast]
theorem or_pow (x j : Nat) (hx : x < 18446744073709551616) (h : j < 64) : bits .or .u64 (x : Int) (2 ^ j) = ((x ||| 2 ^ j : Nat) : Int) := by
  rw [pow_cast]; exact u64_or_nat x (2 ^ j) hx (pow_lt64 j h)

theorem or_pow_lt (x j : Nat) (hx : x < 18446744073709551616) (h : j < 64) : x ||| 2 ^ j < 18446744073709551616 := by
  have h1 := pow_lt64 j h
  have := Nat.or_lt_two_pow (n := 64) (x := x) (y := 2 ^ j) (by simpa using hx) (by simpa using h1)
  simpa using this

set_option maxHeartbeats 1000000 in
theorem set_out (p : Nat) (i : Int) (w : World) (hi : i < 0 ∨ 1048575 < i) :
    Calls Ycum.prog 17 #[.pointer (some ⟨p, 0, none⟩), .int .i64 i] w fun e w' => e = .returned (.bool false) ∧ w' = w := by
  rcases hi with h | h
  · go_enter Ycum.func17, Ycum.ntmps17
    go_wp2_with fail
    go_ret
    exact ⟨rfl, rfl⟩
  · have h' : ¬ i < 0 := by omega
    go_enter Ycum.func17, Ycum.ntmps17
    go_wp2_with fail
    go_ret
    exact ⟨rfl, rfl⟩

set_option maxHeartbeats 1000000 in
theorem set_in (p base : Nat) (v : Value) (n : Nat) (f : Nat → Nat) (i : Nat) (w : World) (hb : Bts w base p v n f) (hi : i ≤ 1048575) (hn : n ≤ 1048576) (hz : base ≤ w.heap.size) :
    Calls Ycum.prog 17 #[.pointer (some ⟨p, 0, none⟩), .int .i64 i] w fun e w' => e = .returned (.bool true) ∧ ∃ v', Bts w' base p v' (max n (i / 64 + 1)) (setf f i) ∧ Touch w w' p v v' := by
  obtain ⟨i0, hi0, hz0, hz1, hz2⟩ := info_parts info_u64
  have HB : Hid (Bts w base p v n f) := hb
  clear hb
  have hi2 : i / 64 < 16384 := by omega
  have d1 : decide ((i : Int) < 0) = false := decide_eq_false (by omega)
  have d2 : decide ((1048575 : Int) < (i : Int)) = false := decide_eq_false (by omega)
  go_enter Ycum.func17, Ycum.ntmps17
  go_wp2_with fail
  go_loopg [] (i / 64 + 1 - n) (fun t wr => ∃ (v1 : Value) (m : Nat), Bts wr base p v1 m f ∧ n ≤ m ∧ m ≤ max n (i / 64 + 1) ∧ Touch w wr p v v1 ∧ t = i / 64 + 1 - m)
  case atStart => exact ⟨v, n, HB.out, Nat.le_refl _, by omega, Touch.refl _ _ _, rfl⟩
  case round =>
    obtain ⟨v1, m, hb, hm1, hm2, ht, hgk⟩ := hrel
    have HGK : Hid (gk = i / 64 + 1 - m) := hgk
    clear hgk
    obtain ⟨a, cap, rfl, hr, hmc, hcm, hnil⟩ := hb.slice
    have hcell := hb.cell
    have hfro := hb.frozen
    have BB : Hid (Bts wr base p (.slice a m cap) m f) := hb
    have TT : Hid (Touch w wr p v (.slice a m cap)) := ht
    have hzr : base ≤ wr.heap.size := Nat.le_trans hz ht.size
    clear hb ht hr hcm hmc hnil
    by_cases hlt : m ≤ i / 64
    · go_wp2_with (first | (at_builtin; refine wpList_append_lies _ rfl _ _ 22 rfl base 30 i0 (.int .u64 0) 1 8 Ycum.underlying22 hi0 hz0 hz1 hz2 rfl (by omega) _ m _ rfl (BB.out.own.alloc _) ⟨wr.heap.size, 0, none⟩ 1 1 [.int .u64 0] rfl rfl (cell_one_new _ _ _) (by intro u hu; simp at hu; subst hu; rfl) (by omega) (by unfold maxLen; omega) (by omega) (by simp; omega) (wr.heap.size + 1) (by simp) ?_))
      intro g cap2 w1 hown hgrow hat hlt2
      obtain ⟨b2, t2, c2, f2⟩ := bts_grow BB.out _ hown hgrow hat
      have B2 : Hid (Bts _ _ _ _ _ _) := b2
      have T2 : Hid (Touch _ _ _ _ _) := TT.out.trans t2
      clear b2 t2 hown hgrow hat
      go_wp2_with fail
      go_roundg (i / 64 + 1 - (m + 1))
      case measure => have := HGK.out; omega
      case rel => exact ⟨_, m + 1, B2.out, by omega, by omega, T2.out, rfl⟩
    · have hmax : max n (i / 64 + 1) = m := by omega
      have HM : Hid (max n (i / 64 + 1) = m) := hmax
      clear hmax
      obtain ⟨g, rfl⟩ : ∃ g, a = some ⟨g, 0, none⟩ := by
        rcases BB.out.own.form with ⟨_, h0⟩ | ⟨g, c, hv, _⟩
        · omega
        · cases hv; exact ⟨g, rfl⟩
      have c2 := BB.out.own.cell (i / 64) (by omega)
      have f2 := BB.out.own.frozen (i / 64)
      have hor := or_pow (f (i / 64)) (i % 64) (BB.out.fit _) (by omega)
      have hwp := wrap_pow' (i % 64) (by omega)
      obtain ⟨b3, t3⟩ := bts_store BB.out (i / 64) (f (i / 64) ||| 2 ^ (i % 64)) (by omega) (or_pow_lt _ _ (BB.out.fit _) (by omega))
      have B3 : Hid (Bts _ _ _ _ _ _) := b3
      have T3 : Hid (Touch _ _ _ _ _) := TT.out.trans t3
      clear b3 t3
      go_wp2_with fail
      go_ret
      exact ⟨rfl, _, by rw [HM.out]; exact B3.out, T3.out⟩

/-- Membership: bit i % 64 of word i / 64. -/
def mem (f : Nat → Nat) (i : Nat) : Bool := (f (i / 64)).testBit (i % 64)
/-- Membership of whatever integer. -/
def memI (f : Nat → Nat) (i : Int) : Bool := if i < 0 then false else mem f i.toNat

/-- The walk's spelling of '(w >> i) & 1 == 1'. -/
theorem bit_at (x i : Nat) (hx : x < 18446744073709551616) : bits .and .u64 ((x : Int) / 2 ^ i) 1 = ((x.testBit i).toNat : Int) := by
  have e : ((x : Int) / 2 ^ i) = ((x / 2 ^ i : Nat) : Int) := by simp
  rw [e]
  have h := u64_and_nat (x / 2 ^ i) 1 (Nat.lt_of_le_of_lt (Nat.div_le_self _ _) hx) (by omega)
  rw [Nat.and_one_is_mod, ← Nat.toNat_testBit] at h
  exact h
theorem bit_beq (b : Bool) : ((b.toNat : Int) == 1) = b := by cases b <;> rfl

set_option maxHeartbeats 1000000 in
theorem has_any (p : Nat) (a : Option Addr) (n cap : Nat) (f : Nat → Nat) (i : Int) (w : World) (hp : w.cell? ⟨p, 0, none⟩ = some (.slice a n cap)) (hr : Reads .u64 w a n f) (hz : ∀ j, n ≤ j → f j = 0) (hf : Fit64 f)
    (hn : n ≤ maxLen) (hi : i ≤ 9223372036854775807) :
    Calls Ycum.prog 19 #[.pointer (some ⟨p, 0, none⟩), .int .i64 i] w fun e w' => e = .returned (.bool (memI f i)) ∧ w' = w := by
  unfold maxLen at hn
  have HR : Hid (Reads .u64 w a n f) := hr
  have HZ : Hid (∀ j, n ≤ j → f j = 0) := hz
  have HF : Hid (Fit64 f) := hf
  clear hr hz hf
  by_cases h0 : i < 0
  · have HM : Hid (memI f i = false) := if_pos h0
    go_enter Ycum.func19, Ycum.ntmps19
    go_wp2_with fail
    go_ret
    exact ⟨ret_bool HM.out.symm, rfl⟩
  · obtain ⟨j, rfl⟩ := Int.eq_ofNat_of_zero_le (Int.not_lt.1 h0)
    have HM : Hid (memI f (j : Int) = (f (j / 64)).testBit (j % 64)) := by
      unfold Hid memI mem
      rw [if_neg h0, Int.toNat_natCast]
    by_cases hlt : j / 64 < n
    · obtain ⟨b, off, rfl, hc⟩ := HR.out (j / 64) hlt
      have hb := bit_at (f (j / 64)) (j % 64) (HF.out _)
      have hq := bit_beq ((f (j / 64)).testBit (j % 64))
      generalize (f (j / 64)).testBit (j % 64) = t at *
      generalize f (j / 64) = x at *
      go_enter Ycum.func19, Ycum.ntmps19
      go_wp2_with fail
      go_ret
      exact ⟨ret_bool HM.out.symm, rfl⟩
    · have HM2 : Hid (memI f (j : Int) = false) := by
        unfold Hid
        rw [HM.out, HZ.out (j / 64) (by omega)]; simp
      go_enter Ycum.func19, Ycum.ntmps19
      go_wp2_with fail
      go_ret
      exact ⟨ret_bool HM2.out.symm, rfl⟩

end Go.Proofs.Ymbrcu
