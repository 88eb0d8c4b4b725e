/-
  THE WALKS OF gelem, gbuild AND LawS930007GLattice.
-/
import Derived.Test.YmbrcvCanon
import Derived.Test.YmbrcvUnion
import Derived.Test.YmbrcvInter
namespace Go.Proofs.Ymbrcv.GLaws
open Go.RowKit Go.Proofs.Ymbrcv
set_option linter.unusedVariables false

/-- What gelem answers. -/
def ge37 (x : Nat) : Nat := x * 37 % 320
theorem ge37_lt (x : Nat) : ge37 x < 320 := Nat.mod_lt _ (by omega)

set_option maxHeartbeats 1000000 in
theorem gelem_any (x : Nat) (hx : x < 65536) (w : World) :
    Calls Ycvm.prog 24 #[.int .u16 x] w fun e w' => e = .returned (.int .i64 (ge37 x)) ∧ w' = w := by
  go_enter Ycvm.func24, Ycvm.ntmps24
  go_wp2_with fail
  go_ret
  exact ⟨ret_int (by unfold ge37; omega), rfl⟩

set_option maxRecDepth 100000 in
set_option maxHeartbeats 1000000 in
theorem gbuild_any (a : Option Addr) (n cap : Nat) (f h : Nat → Nat) (w : World) (hr : Reads .u16 w a n f) (hf : ∀ i, f i < 65536) (hh : ∀ i, h i = ge37 (f i)) (hn : n ≤ 1048576) :
    Calls Ycvm.prog 25 #[.slice a n cap] w fun e w' => ∃ q v, e = .returned (.pointer (some ⟨q, 0, none⟩)) ∧ Bts w' w.heap.size q v (fn (fun i => (h i : Int)) n) (fe (fun i => (h i : Int)) n) ∧ Below w.heap.size w w' := by
  have HR : Hid (Reads .u16 w a n f) := hr
  have CG : Hid (∀ i w, Calls Ycvm.prog 24 #[.int .u16 (f i)] w fun e w' => e = .returned (.int .i64 (h i)) ∧ w' = w) := fun i w => by rw [hh]; exact gelem_any (f i) (hf i) w
  have HL : Hid (∀ i, h i < 320) := fun i => by rw [hh]; exact ge37_lt _
  clear hr hf hh
  have B0 : Hid (Bts _ _ _ _ _ _) := bts_new w w.heap.size (Nat.le_refl _)
  have W0 : Hid (Below w.heap.size w _) := (Below.refl w.heap.size w).alloc (Nat.le_refl _) (.cells #[.slice none 0 0] 28)
  go_enter Ycvm.func25, Ycvm.ntmps25
  go_wp2_with fail
  go_loopw [10] (fun t wr => ∃ (k : Nat) (v : Value), k ≤ n ∧ t = .int .i64 k ∧ Bts wr w.heap.size w.heap.size v (fn (fun i => (h i : Int)) k) (fe (fun i => (h i : Int)) k) ∧ Below w.heap.size w wr) (fun t _ => n - (intOf t).toNat)
  case atStart => exact ⟨0, _, by omega, rfl, B0.out, W0.out⟩
  case round =>
    clear B0 W0
    obtain ⟨k, v, hk, rfl, hb, hbel⟩ := hrel
    have HB : Hid (Bts _ _ _ _ _ _) := hb
    have HW : Hid (Below _ _ _) := hbel
    have hz : w.heap.size ≤ wr.heap.size := hbel.size
    clear hb hbel
    by_cases hlt : k < n
    · obtain ⟨b, off, rfl, hc⟩ := HR.out k hlt
      have hc1 : wr.cell? ⟨b, off + k, none⟩ = some (.int .u16 (f k)) := (HW.out.cell (World.block_lt_of_cell? w _ hc)).trans hc
      clear hc
      have hfn : fn (fun i => (h i : Int)) k ≤ 1048576 := by have := fn_le (fun i => (h i : Int)) k; omega
      have hlk := HL.out k
      have CK : Hid (∀ w, _) := CG.out k
      have HI : Kept (inR (h k : Int) = true) := Kept.mk (inR_nat (by omega))
      go_wp2_with fail
      refine Calls.mono (CK.out _) ?_
      rintro e w4 ⟨rfl, rfl⟩
      go_wp2_with fail
      refine Calls.mono (set_eq HB.out hfn hz HI.out) ?_
      rintro e w5 ⟨rfl, v5, b5, t5⟩
      have B5 : Hid (Bts _ _ _ _ (fn (fun i => (h i : Int)) (k + 1)) (fe (fun i => (h i : Int)) (k + 1))) := b5
      have W5 : Hid (Below _ _ _) := HW.out.trans (t5.below HB.out (Nat.le_refl _) hz)
      clear b5 t5
      go_wp2_with fail
      go_roundw
      case rel => exact ⟨k + 1, v5, by omega, by go_num, B5.out, W5.out⟩
      case measure => simp [intOf]; omega
    · obtain rfl : k = n := by omega
      go_wp2_with fail
      go_ret
      exact ⟨_, v, rfl, HB.out, HW.out⟩

theorem tl_trimmed {n : Nat} {f : Nat → Nat} (h : Trimmed n f) : tl f n = n := by
  cases n with
  | zero => rfl
  | succ n =>
    rcases h with h | h
    · omega
    · simp only [Nat.add_sub_cancel] at h
      simp [tl, h]

theorem and_self_fn (f : Nat → Nat) : (fun i => f i &&& f i) = f := by funext i; exact Nat.and_self _
theorem and_comm_fn (f g : Nat → Nat) : (fun i => f i &&& g i) = fun i => g i &&& f i := by funext i; exact Nat.and_comm _ _
theorem and_or_fn (f g : Nat → Nat) : (fun i => f i &&& (f i ||| g i)) = f := by
  funext i
  apply Nat.eq_of_testBit_eq
  intro j
  rw [Nat.testBit_and, Nat.testBit_or]
  cases (f i).testBit j <;> simp
theorem or_and_fn (f g : Nat → Nat) : (fun i => (f i ||| g i) &&& g i) = g := by
  funext i
  apply Nat.eq_of_testBit_eq
  intro j
  rw [Nat.testBit_and, Nat.testBit_or]
  cases (g i).testBit j <;> simp
theorem and_zero_fn (f : Nat → Nat) : (fun i => f i &&& 0) = fun _ => 0 := by funext i; exact Nat.and_zero _
theorem zero_and_fn (f : Nat → Nat) : (fun i => 0 &&& f i) = fun _ => 0 := by funext i; exact Nat.zero_and _

/-- Intersect, its answer told: n words, h. -/
theorem inter_eq {p q base base' : Nat} {v u : Value} {n m : Nat} {f g : Nat → Nat} {w : World} (hb : Bts w base p v n f) (hc : Bts w base' q u m g) (hn : n ≤ 1048576) (hm : m ≤ 1048576) {h : Nat → Nat} {k : Nat} (hh : (fun i => f i &&& g i) = h) (hk : tl h (min n m) = k) :
    Calls Ycvm.prog 21 #[.pointer (some ⟨p, 0, none⟩), .pointer (some ⟨q, 0, none⟩)] w fun e w' => ∃ r v, e = .returned (.pointer (some ⟨r, 0, none⟩)) ∧ Bts w' w.heap.size r v k h ∧ Below w.heap.size w w' := by
  subst hh hk
  exact inter_bts hb hc hn hm

set_option maxRecDepth 100000 in
set_option maxHeartbeats 2000000 in
theorem glattice (a a' : Option Addr) (n cap m cap' : Nat) (f g : Nat → Nat) (w : World) (hr : Reads .u16 w a n f) (hf : ∀ i, f i < 65536) (hr' : Reads .u16 w a' m g) (hg : ∀ i, g i < 65536)
    (hn : n ≤ cap) (hm : cap ≤ maxLen) (hn' : m ≤ cap') (hm' : cap' ≤ maxLen) :
    Calls Ycvm.prog 11 #[.slice a n cap, .slice a' m cap'] w fun e w' => e = .returned (.bool true) ∧ Below w.heap.size w w' := by
  unfold maxLen at hm hm'
  by_cases hbig : 1024 < n
  · have d1 : decide ((1024 : Int) < (n : Int)) = true := decide_eq_true (by omega)
    clear hr hr'
    go_enter Ycvm.func11, Ycvm.ntmps11
    go_wp2_with fail
    go_ret
    exact ⟨rfl, Below.refl _ _⟩
  have d1 : decide ((1024 : Int) < (n : Int)) = false := decide_eq_false (by omega)
  by_cases hbig' : 1024 < m
  · have d2 : decide ((1024 : Int) < (m : Int)) = true := decide_eq_true (by omega)
    clear hr hr'
    go_enter Ycvm.func11, Ycvm.ntmps11
    go_wp2_with fail
    go_ret
    exact ⟨rfl, Below.refl _ _⟩
  have d2 : decide ((1024 : Int) < (m : Int)) = false := decide_eq_false (by omega)
  have RG : Hid (Reads .u16 w a' m g) := hr'
  have HG : Hid (∀ i, g i < 65536) := hg
  have C1 : Hid _ := gbuild_any a n cap f (fun i => ge37 (f i)) w hr hf (fun _ => rfl) (by omega)
  clear hr hf hr' hg
  go_enter Ycvm.func11, Ycvm.ntmps11
  go_wp2_with fail
  refine Calls.mono C1.out ?_
  rintro e w1 ⟨p, v, rfl, b1, l1⟩
  have hN := fn_le (fun i => ((ge37 (f i) : Nat) : Int)) n
  have hT := fe_trimmed (fun i => ((ge37 (f i) : Nat) : Int)) n
  generalize fn (fun i => ((ge37 (f i) : Nat) : Int)) n = N at *
  generalize fe (fun i => ((ge37 (f i) : Nat) : Int)) n = F at *
  have TF : Kept (tl F N = N) := Kept.mk (tl_trimmed hT)
  have B1 : Hid (Bts w1 _ _ _ _ _) := b1
  have L1 : Hid (Below w.heap.size w w1) := l1
  have z1 : w.heap.size ≤ w1.heap.size := l1.size
  have C2 : Hid _ := gbuild_any a' m cap' g (fun i => ge37 (g i)) w1 (RG.out.below l1) HG.out (fun _ => rfl) (by omega)
  clear b1 l1 hT
  go_wp2_with fail
  refine Calls.mono C2.out ?_
  rintro e w2 ⟨q, u, rfl, b2, l2⟩
  have hM := fn_le (fun i => ((ge37 (g i) : Nat) : Int)) m
  have hT := fe_trimmed (fun i => ((ge37 (g i) : Nat) : Int)) m
  generalize fn (fun i => ((ge37 (g i) : Nat) : Int)) m = M at *
  generalize fe (fun i => ((ge37 (g i) : Nat) : Int)) m = G at *
  have TG : Kept (tl G M = M) := Kept.mk (tl_trimmed hT)
  have C2' : Hid (Bts w2 _ _ _ _ _) := b2
  have B2 : Hid (Bts w2 _ _ _ _ _) := B1.out.below l2 (Nat.le_refl _)
  have L2 : Hid (Below w.heap.size w w2) := L1.out.trans (l2.mono z1)
  have z2 : w.heap.size ≤ w2.heap.size := L2.out.size
  clear b2 l2 hT B1 L1 C1 C2
  -- b meets c; c meets b
  go_wp2_with fail
  refine Calls.mono (inter_bts B2.out C2'.out (by omega) (by omega)) ?_
  rintro e w3 ⟨r3, v3, rfl, b3, l3⟩
  have D3 : Hid (Bts w3 _ _ _ _ _) := b3
  have B3 : Hid (Bts w3 _ _ _ _ _) := B2.out.below l3 (Nat.le_refl _)
  have C3 : Hid (Bts w3 _ _ _ _ _) := C2'.out.below l3 (Nat.le_refl _)
  have L3 : Hid (Below w.heap.size w w3) := L2.out.trans (l3.mono z2)
  have z3 : w.heap.size ≤ w3.heap.size := L3.out.size
  clear b3 l3 B2 C2'
  go_wp2_with fail
  refine Calls.mono (inter_bts C3.out B3.out (by omega) (by omega)) ?_
  rintro e w4 ⟨r4, v4, rfl, b4, l4⟩
  have E4 : Hid (Bts w4 _ _ _ _ _) := b4
  have D4 : Hid (Bts w4 _ _ _ _ _) := D3.out.below l4 (Nat.le_refl _)
  have B4 : Hid (Bts w4 _ _ _ _ _) := B3.out.below l4 (Nat.le_refl _)
  have C4 : Hid (Bts w4 _ _ _ _ _) := C3.out.below l4 (Nat.le_refl _)
  have L4 : Hid (Below w.heap.size w w4) := L3.out.trans (l4.mono z3)
  have HE1 : Kept (eqB (tl (fun i => F i &&& G i) (min N M)) (fun i => F i &&& G i) (tl (fun i => G i &&& F i) (min M N)) (fun i => G i &&& F i) = true) := Kept.mk (by
    rw [and_comm_fn G F, Nat.min_comm M N]
    exact eqB_same rfl fun _ _ => rfl)
  clear b4 l4 B3 C3 D3 L2 L3
  go_wp2_with fail
  refine Calls.mono (equal_bts D4.out E4.out HE1.out _ (Still.refl _)) ?_
  rintro e w5 ⟨rfl, s5⟩
  have B5 : Hid (Bts w5 _ _ _ _ _) := B4.out.still s5
  have C5 : Hid (Bts w5 _ _ _ _ _) := C4.out.still s5
  have L5 : Hid (Below w.heap.size w w5) := L4.out.trans s5.below
  have z5 : w.heap.size ≤ w5.heap.size := L5.out.size
  clear s5 B4 C4 D4 E4 L4 HE1
  -- b meets b
  go_wp2_with fail
  refine Calls.mono (inter_eq (k := N) B5.out B5.out (by omega) (by omega) (and_self_fn F) (by rw [Nat.min_self]; exact TF.out)) ?_
  rintro e w6 ⟨r6, v6, rfl, b6, l6⟩
  have D6 : Hid (Bts w6 _ _ _ _ _) := b6
  have B6 : Hid (Bts w6 _ _ _ _ _) := B5.out.below l6 (Nat.le_refl _)
  have C6 : Hid (Bts w6 _ _ _ _ _) := C5.out.below l6 (Nat.le_refl _)
  have L6 : Hid (Below w.heap.size w w6) := L5.out.trans (l6.mono z5)
  clear b6 l6 B5 C5 L5
  go_wp2_with fail
  refine Calls.mono (equal_bts D6.out B6.out (eqB_same rfl fun _ _ => rfl) _ (Still.refl _)) ?_
  rintro e w7 ⟨rfl, s7⟩
  have B7 : Hid (Bts w7 _ _ _ _ _) := B6.out.still s7
  have C7 : Hid (Bts w7 _ _ _ _ _) := C6.out.still s7
  have L7 : Hid (Below w.heap.size w w7) := L6.out.trans s7.below
  have z7 : w.heap.size ≤ w7.heap.size := L7.out.size
  clear s7 B6 C6 D6 L6
  -- the union
  go_wp2_with fail
  refine Calls.mono (union_bts B7.out C7.out (by omega) (by omega)) ?_
  rintro e w8 ⟨r8, v8, rfl, b8, l8⟩
  have U8 : Hid (Bts w8 _ _ _ _ _) := b8
  have B8 : Hid (Bts w8 _ _ _ _ _) := B7.out.below l8 (Nat.le_refl _)
  have C8 : Hid (Bts w8 _ _ _ _ _) := C7.out.below l8 (Nat.le_refl _)
  have L8 : Hid (Below w.heap.size w w8) := L7.out.trans (l8.mono z7)
  have z8 : w.heap.size ≤ w8.heap.size := L8.out.size
  clear b8 l8 B7 C7 L7
  go_wp2_with fail
  refine Calls.mono (inter_eq (k := N) B8.out U8.out (by omega) (by omega) (and_or_fn F G) (by rw [show min N (max N M) = N by omega]; exact TF.out)) ?_
  rintro e w9 ⟨r9, v9, rfl, b9, l9⟩
  have D9 : Hid (Bts w9 _ _ _ _ _) := b9
  have U9 : Hid (Bts w9 _ _ _ _ _) := U8.out.below l9 (Nat.le_refl _)
  have B9 : Hid (Bts w9 _ _ _ _ _) := B8.out.below l9 (Nat.le_refl _)
  have C9 : Hid (Bts w9 _ _ _ _ _) := C8.out.below l9 (Nat.le_refl _)
  have L9 : Hid (Below w.heap.size w w9) := L8.out.trans (l9.mono z8)
  clear b9 l9 B8 C8 U8 L8
  go_wp2_with fail
  refine Calls.mono (equal_bts D9.out B9.out (eqB_same rfl fun _ _ => rfl) _ (Still.refl _)) ?_
  rintro e w10 ⟨rfl, s10⟩
  have U10 : Hid (Bts w10 _ _ _ _ _) := U9.out.still s10
  have B10 : Hid (Bts w10 _ _ _ _ _) := B9.out.still s10
  have C10 : Hid (Bts w10 _ _ _ _ _) := C9.out.still s10
  have L10 : Hid (Below w.heap.size w w10) := L9.out.trans s10.below
  have z10 : w.heap.size ≤ w10.heap.size := L10.out.size
  clear s10 B9 C9 U9 D9 L9
  go_wp2_with fail
  refine Calls.mono (inter_eq (k := M) U10.out C10.out (by omega) (by omega) (or_and_fn F G) (by rw [show min (max N M) M = M by omega]; exact TG.out)) ?_
  rintro e w11 ⟨r11, v11, rfl, b11, l11⟩
  have D11 : Hid (Bts w11 _ _ _ _ _) := b11
  have B11 : Hid (Bts w11 _ _ _ _ _) := B10.out.below l11 (Nat.le_refl _)
  have C11 : Hid (Bts w11 _ _ _ _ _) := C10.out.below l11 (Nat.le_refl _)
  have L11 : Hid (Below w.heap.size w w11) := L10.out.trans (l11.mono z10)
  clear b11 l11 B10 C10 U10 L10
  go_wp2_with fail
  refine Calls.mono (equal_bts D11.out C11.out (eqB_same rfl fun _ _ => rfl) _ (Still.refl _)) ?_
  rintro e w12 ⟨rfl, s12⟩
  have B12 : Hid (Bts w12 _ _ _ _ _) := B11.out.still s12
  have C12 : Hid (Bts w12 _ _ _ _ _) := C11.out.still s12
  have L12 : Hid (Below w.heap.size w w12) := L11.out.trans s12.below
  clear s12 B11 C11 D11 L11
  -- the empty set
  go_wp2_with fail
  have E13 : Hid (Bts (w12.alloc (.cells #[.slice none 0 0] 28)) w12.heap.size w12.heap.size (.slice none 0 0) 0 fun _ => 0) := bts_new w12 w12.heap.size (Nat.le_refl _)
  have l13 : Below w12.heap.size w12 (w12.alloc (.cells #[.slice none 0 0] 28)) := (Below.refl _ _).alloc (Nat.le_refl _) _
  have B13 : Hid (Bts (w12.alloc (.cells #[.slice none 0 0] 28)) _ _ _ _ _) := B12.out.below l13 (Nat.le_refl _)
  have C13 : Hid (Bts (w12.alloc (.cells #[.slice none 0 0] 28)) _ _ _ _ _) := C12.out.below l13 (Nat.le_refl _)
  have L13 : Hid (Below w.heap.size w (w12.alloc (.cells #[.slice none 0 0] 28))) := L12.out.trans (l13.mono L12.out.size)
  have z13 : w.heap.size ≤ (w12.alloc (.cells #[.slice none 0 0] 28)).heap.size := L13.out.size
  clear l13 B12 C12 L12
  generalize w12.alloc (.cells #[.slice none 0 0] 28) = w13 at *
  generalize w12.heap.size = eb at *
  refine Calls.mono (inter_eq (k := 0) B13.out E13.out (by omega) (by omega) (and_zero_fn F) (by rw [Nat.min_zero]; rfl)) ?_
  rintro e w14 ⟨r14, v14, rfl, b14, l14⟩
  have D14 : Hid (Bts w14 _ _ _ _ _) := b14
  have E14 : Hid (Bts w14 _ _ _ _ _) := E13.out.below l14 (Nat.le_refl _)
  have C14 : Hid (Bts w14 _ _ _ _ _) := C13.out.below l14 (Nat.le_refl _)
  have L14 : Hid (Below w.heap.size w w14) := L13.out.trans (l14.mono z13)
  clear b14 l14 B13 C13 E13 L13
  go_wp2_with fail
  refine Calls.mono (equal_bts D14.out E14.out (eqB_same rfl fun _ _ => rfl) _ (Still.refl _)) ?_
  rintro e w15 ⟨rfl, s15⟩
  have E15 : Hid (Bts w15 _ _ _ _ _) := E14.out.still s15
  have C15 : Hid (Bts w15 _ _ _ _ _) := C14.out.still s15
  have L15 : Hid (Below w.heap.size w w15) := L14.out.trans s15.below
  have z15 : w.heap.size ≤ w15.heap.size := L15.out.size
  clear s15 C14 D14 E14 L14
  go_wp2_with fail
  refine Calls.mono (inter_eq (k := 0) E15.out C15.out (by omega) (by omega) (zero_and_fn G) (by rw [Nat.zero_min]; rfl)) ?_
  rintro e w16 ⟨r16, v16, rfl, b16, l16⟩
  have D16 : Hid (Bts w16 _ _ _ _ _) := b16
  have E16 : Hid (Bts w16 _ _ _ _ _) := E15.out.below l16 (Nat.le_refl _)
  have L16 : Hid (Below w.heap.size w w16) := L15.out.trans (l16.mono z15)
  clear b16 l16 C15 E15 L15
  go_wp2_with fail
  refine Calls.mono (equal_bts D16.out E16.out (eqB_same rfl fun _ _ => rfl) _ (Still.refl _)) ?_
  rintro e w17 ⟨rfl, s17⟩
  go_wp2_with fail
  go_ret
  exact ⟨rfl, L16.out.trans s17.below⟩
end Go.Proofs.Ymbrcv.GLaws
