/-
  THE WALK OF FromElems.
-/
import Derived.Test.YmbrcuSets
namespace Go.Proofs.Ymbrcu
open Go.RowKit
set_option linter.unusedVariables false

/-- The slice of ints at a, of n elements, holds g 0, g 1, .. -/
def ReadsI (w : World) (a : Option Addr) (n : Nat) (g : Nat → Int) : Prop :=
  ∀ i, i < n → ∃ b off, a = some ⟨b, off, none⟩ ∧ w.cell? ⟨b, off + i, none⟩ = some (.int .i64 (g i))

theorem Reads.toI {w : World} {a : Option Addr} {n : Nat} {f : Nat → Nat} (h : Reads .i64 w a n f) : ReadsI w a n fun i => (f i : Int) := h

theorem ReadsI.below {w w' : World} {a : Option Addr} {n : Nat} {g : Nat → Int} (h : ReadsI w a n g) (hb : Below w.heap.size w w') : ReadsI w' a n g := fun i hi => by
  obtain ⟨b, off, e, hc⟩ := h i hi
  exact ⟨b, off, e, (hb.cell (World.block_lt_of_cell? w _ hc)).trans hc⟩
theorem ReadsI.still {w w' : World} {a : Option Addr} {n : Nat} {g : Nat → Int} (h : ReadsI w a n g) (hs : Still w w') : ReadsI w' a n g := fun i hi => by
  obtain ⟨b, off, e, hc⟩ := h i hi
  exact ⟨b, off, e, (hs.cell _).trans hc⟩

theorem readsI_of_row {w : World} {a : Option Addr} {len cap : Nat} {zs : List Int} (h : IsRow .i64 w a len cap zs) :
    ∃ g : Nat → Int, ReadsI w a len g ∧ (∀ i, -9223372036854775808 ≤ g i ∧ g i ≤ 9223372036854775807) ∧ len ≤ cap ∧ cap ≤ maxLen ∧ (a = none → cap = 0) := by
  rcases h with ⟨rfl, rfl, rfl, rfl⟩ | ⟨x, rfl, hl, hm, hz, hc, hw⟩
  · exact ⟨fun _ => 0, fun i hi => by omega, fun _ => (by decide : (-9223372036854775808 : Int) ≤ 0 ∧ (0 : Int) ≤ 9223372036854775807), Nat.le_refl _, by decide, fun _ => rfl⟩
  · refine ⟨fun i => if i < len then zs.getD i 0 else 0, fun i hi => ?_, fun i => ?_, hl, hm, fun h => by cases h⟩
    · obtain ⟨b, off, spot⟩ := x
      have hi' : i < zs.length := by omega
      have hci := hc i hi'
      have hs : spot = none := by simpa [Addr.add] using World.cell?_spot (hc 0 (by omega))
      subst hs
      refine ⟨b, off, rfl, ?_⟩
      have e : (⟨b, off, none⟩ : Addr).add i = ⟨b, off + i, none⟩ := by unfold Addr.add; split <;> simp_all
      rw [e] at hci
      show _ = some (Value.int .i64 (if i < len then zs.getD i 0 else 0))
      rw [if_pos hi, hci]
    · show -9223372036854775808 ≤ (if i < len then zs.getD i 0 else 0) ∧ (if i < len then zs.getD i 0 else 0) ≤ 9223372036854775807
      split
      · exact bd_i64 _ (hw _ (getD_mem (by omega)))
      · omega

/-- The words of the first k elements of g. -/
def fe (g : Nat → Int) : Nat → (Nat → Nat)
  | 0 => fun _ => 0
  | k + 1 => setI (fe g k) (g k)
/-- How many words they are. -/
def fn (g : Nat → Int) : Nat → Nat
  | 0 => 0
  | k + 1 => setN (fn g k) (g k)

theorem fn_le (g : Nat → Int) (k : Nat) : fn g k ≤ 16384 := by
  induction k with
  | zero => exact Nat.zero_le _
  | succ k ih => exact setN_le _ ih (Nat.le_refl _)

theorem fe_trimmed (g : Nat → Int) (k : Nat) : Trimmed (fn g k) (fe g k) := by
  induction k with
  | zero => exact .inl rfl
  | succ k ih => exact trimmed_setI ih _

/-- Who is an element. -/
theorem memI_fe (g : Nat → Int) (k : Nat) (j : Int) : memI (fe g k) j = true ↔ inR j = true ∧ ∃ i, i < k ∧ g i = j := by
  induction k with
  | zero =>
    constructor
    · intro h
      unfold memI fe at h
      split at h
      · cases h
      · unfold mem at h; simp at h
    · rintro ⟨_, i, hi, _⟩
      omega
  | succ k ih =>
    show memI (setI (fe g k) (g k)) j = true ↔ _
    rw [memI_setI, Bool.or_eq_true, ih, Bool.and_eq_true, decide_eq_true_iff]
    constructor
    · rintro (⟨hr, i, hi, e⟩ | ⟨hr, e⟩)
      · exact ⟨hr, i, by omega, e⟩
      · exact ⟨by rw [e]; exact hr, k, by omega, e.symm⟩
    · rintro ⟨hr, i, hi, e⟩
      rcases Nat.lt_or_ge i k with c | c
      · exact .inl ⟨hr, i, c, e⟩
      · have : i = k := by omega
        subst this
        exact .inr ⟨by rw [e]; exact hr, e.symm⟩

theorem memI_empty (j : Int) : memI (fun _ => 0) j = false := by
  unfold memI
  split
  · rfl
  · unfold mem; simp

set_option maxRecDepth 100000 in
set_option maxHeartbeats 2000000 in
theorem from_any (a : Option Addr) (n cap : Nat) (g : Nat → Int) (w : World) (hr : ReadsI w a n g) (hn : n ≤ maxLen) :
    Calls Ycum.prog 24 #[.slice a n cap] w fun e w' => ∃ q v, Below w.heap.size w w' ∧
      ((e = .returned (.tuple #[.pointer (some ⟨q, 0, none⟩), .bool true]) ∧ (∀ i, i < n → inR (g i) = true) ∧ Bts w' w.heap.size q v (fn g n) (fe g n)) ∨
       (e = .returned (.tuple #[.pointer (some ⟨q, 0, none⟩), .bool false]) ∧ (∃ i, i < n ∧ inR (g i) = false) ∧ Bts w' w.heap.size q v 0 fun _ => 0)) := by
  unfold maxLen at hn
  have HR : Hid (ReadsI w a n g) := hr
  clear hr
  have B0 : Hid (Bts _ _ _ _ _ _) := bts_new w w.heap.size (Nat.le_refl _)
  have W0 : Hid (Below w.heap.size w _) := (Below.refl w.heap.size w).alloc (Nat.le_refl _) (.cells #[.slice none 0 0] 27)
  go_enter Ycum.func24, Ycum.ntmps24
  go_wp2_with fail
  go_loopw [11] (fun t wr => ∃ (k : Nat) (v : Value), k ≤ n ∧ t = .int .i64 k ∧ (∀ i, i < k → inR (g i) = true) ∧ Bts wr w.heap.size w.heap.size v (fn g k) (fe g k) ∧ Below w.heap.size w wr) (fun t _ => n - (intOf t).toNat)
  case atStart => exact ⟨0, _, by omega, rfl, fun i hi => by omega, B0.out, W0.out⟩
  case round =>
    clear B0 W0
    obtain ⟨k, v, hk, rfl, hal, hb, hbel⟩ := hrel
    have HA : Hid (∀ i, i < k → inR (g i) = true) := hal
    have HB : Hid (Bts _ _ _ _ _ _) := hb
    have HW : Hid (Below _ _ _) := hbel
    have hz : w.heap.size ≤ wr.heap.size := hbel.size
    clear hal hb hbel
    by_cases hlt : k < n
    · obtain ⟨b, off, rfl, hc⟩ := HR.out k hlt
      have hc1 : wr.cell? ⟨b, off + k, none⟩ = some (.int .i64 (g k)) := (HW.out.cell (World.block_lt_of_cell? w _ hc)).trans hc
      clear hc
      have hfn : fn g k ≤ 1048576 := by have := fn_le g k; omega
      cases hin : inR (g k)
      · have HI : Hid (inR (g k) = false) := hin
        clear hin
        go_wp2_with fail
        refine Calls.mono (set_eq HB.out hfn hz HI.out) ?_
        rintro e w5 ⟨rfl, v5, b5, t5⟩
        have W5 : Hid (Below _ _ _) := HW.out.trans (t5.below HB.out (Nat.le_refl _) hz)
        have hz5 : w.heap.size ≤ w5.heap.size := Nat.le_trans hz t5.size
        clear b5 t5
        go_wp2_with fail
        go_ret2
        exact ⟨_, _, W5.out.alloc hz5 _, .inr ⟨rfl, ⟨k, hlt, HI.out⟩, bts_new w5 w.heap.size hz5⟩⟩
      · have HI : Hid (inR (g k) = true) := hin
        clear hin
        go_wp2_with fail
        refine Calls.mono (set_eq HB.out hfn hz HI.out) ?_
        rintro e w5 ⟨rfl, v5, b5, t5⟩
        have B5 : Hid (Bts _ _ _ _ _ _) := b5
        have W5 : Hid (Below _ _ _) := HW.out.trans (t5.below HB.out (Nat.le_refl _) hz)
        clear b5 t5
        go_wp2_with fail
        go_roundw
        case rel =>
          refine ⟨k + 1, v5, by omega, by go_num, fun i hi => ?_, B5.out, W5.out⟩
          rcases Nat.lt_or_ge i k with c | c
          · exact HA.out i c
          · rw [show i = k by omega]; exact HI.out
        case measure => simp [intOf]; omega
    · obtain rfl : k = n := by omega
      go_wp2_with fail
      go_ret2
      exact ⟨_, v, HW.out, .inl ⟨rfl, HA.out, HB.out⟩⟩

/-- Does q occur among the first k? -/
def occ (h : Nat → Nat) (k : Nat) (q : Int) : Bool := (List.range k).any fun i => decide ((h i : Int) = q)
theorem occ_iff {h : Nat → Nat} {k : Nat} {q : Int} : occ h k q = true ↔ ∃ i, i < k ∧ (h i : Int) = q := by simp [occ]
theorem occ_succ (h : Nat → Nat) (k : Nat) (q : Int) : occ h (k + 1) q = (occ h k q || decide ((h k : Int) = q)) := by
  unfold occ
  rw [List.range_succ, List.any_append]
  simp
theorem occ_zero (h : Nat → Nat) (q : Int) : occ h 0 q = false := rfl

theorem inR_nat {x : Nat} (h : x < 1048576) : inR (x : Int) = true := inR_iff.2 ⟨by omega, by omega⟩

/-- Over numbers in range the elements are those that occur. -/
theorem memI_fe_nat {h : Nat → Nat} {k : Nat} (hb : ∀ i, h i < 1048576) (q : Int) : memI (fe (fun i => (h i : Int)) k) q = occ h k q := by
  rw [Bool.eq_iff_iff, memI_fe, occ_iff]
  constructor
  · rintro ⟨_, i, hi, e⟩
    exact ⟨i, hi, e⟩
  · rintro ⟨i, hi, e⟩
    exact ⟨by rw [← e]; exact inR_nat (hb i), i, hi, e⟩

/-- Where every integer is in range. -/
theorem from_ok {a : Option Addr} {n cap : Nat} {g : Nat → Int} {w : World} (hr : ReadsI w a n g) (hn : n ≤ maxLen) (hal : ∀ i, i < n → inR (g i) = true) :
    Calls Ycum.prog 24 #[.slice a n cap] w fun e w' => ∃ q v, e = .returned (.tuple #[.pointer (some ⟨q, 0, none⟩), .bool true]) ∧ Bts w' w.heap.size q v (fn g n) (fe g n) ∧ Below w.heap.size w w' :=
  (from_any a n cap g w hr hn).mono fun e w' h => by
    obtain ⟨q, v, hw, ⟨he, _, hb⟩ | ⟨he, ⟨i, hi, hx⟩, hb⟩⟩ := h
    · exact ⟨q, v, he, hb, hw⟩
    · rw [hal i hi] at hx; cases hx

end Go.Proofs.Ymbrcu
