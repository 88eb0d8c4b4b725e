/-
  THE WALK OF LawS930007BUndo.
-/
import Derived.Test.YmbrcuBMake
import Derived.Test.YmbrcuSameU
import Derived.Test.YmbrcuCanon
import Derived.Deep.QuietTactic
import Derived.BigQuiet
namespace Go.Proofs.Ymbrcu.BLaws
open Go.RowKit Go.Proofs.Ymbrcu
set_option linter.unusedVariables false

theorem apart {w1 w2 : World} {base p q n m : Nat} {v u : Value} {f g : Nat → Nat} (h1 : Bts w1 base p v n f) (h2 : Bts w2 w1.heap.size q u m g) : q ≠ p ∧ (u.ownBlock = none ∨ u.ownBlock ≠ v.ownBlock) := by
  have a1 := h1.lt
  have a2 := h2.ge
  refine ⟨by omega, ?_⟩
  cases hu : u.ownBlock with
  | none => exact .inl rfl
  | some k =>
    refine .inr fun c => ?_
    have b1 := (h2.own.lt k hu).1
    have b2 := (h1.own.lt k c.symm).2
    omega
theorem touch_apart {w w' : World} {base p q n : Nat} {v u u' : Value} {f : Nat → Nat} (ht : Touch w w' q u u') (h : Bts w base p v n f) (hvu : v.ownBlock = none ∨ v.ownBlock ≠ u.ownBlock) : v.ownBlock = none ∨ v.ownBlock ≠ u'.ownBlock := by
  rcases hvu with e | e
  · exact .inl e
  · cases hv : v.ownBlock with
    | none => exact .inl rfl
    | some k =>
      refine .inr fun c => ?_
      rcases ht.lies with l | ⟨g, l, hg⟩
      · exact e (by rw [hv, c, l])
      · have := (h.own.lt k hv).2
        rw [l] at c
        have : k = g := Option.some.inj c
        omega

theorem tl_tl {f : Nat → Nat} {n : Nat} : Trimmed (tl f n) f := by
  by_cases h : tl f n = 0
  · exact .inl h
  · exact .inr (tl_last f n (by omega))
theorem tl_trim {n : Nat} {f : Nat → Nat} (h : Trimmed n f) : tl f n = n := by
  cases n with
  | zero => rfl
  | succ n =>
    rcases h with h | h
    · omega
    · simp only [Nat.add_sub_cancel] at h
      simp [tl, h]

theorem set_clr {f : Nat → Nat} (hf : Fit64 f) {q : Nat} (h : mem f q = true) : setf (clr f q) q = f :=
  words_ext (setf_fit (clr_fit hf q) q) hf fun i => by
    rw [mem_setf, mem_clr hf]
    by_cases e : i = q
    · rw [e, h]; simp
    · simp [e]
theorem setf_zero {f : Nat → Nat} {n : Nat} (hz : ∀ i, n ≤ i → f i = 0) (x : Nat) : ∀ i, max n (x / 64 + 1) ≤ i → setf f x i = 0 := fun i hi => by
  unfold setf
  rw [upd_other _ _ _ _ (by omega)]
  exact hz i (by omega)
theorem mem_lt {f : Nat → Nat} {n : Nat} (hz : ∀ i, n ≤ i → f i = 0) {q : Nat} (h : mem f q = true) : q / 64 < n := by
  apply Nat.lt_of_not_le
  intro c
  unfold mem at h
  rw [hz _ c, Nat.zero_testBit] at h
  cases h
theorem memI_pos {f : Nat → Nat} {i : Int} (h : memI f i = true) : ∃ q : Nat, i = (q : Int) ∧ mem f q = true := by
  unfold memI at h
  split at h
  · cases h
  · exact ⟨i.toNat, by omega, h⟩
theorem memI_clr {f : Nat → Nat} (hf : Fit64 f) (q : Nat) : memI (clr f q) (q : Int) = false := by
  rw [memI_nat, mem_clr hf]
  simp

theorem bmake_eq {a : Option Addr} {n cap : Nat} {f : Nat → Nat} {w : World} (hr : Reads .u64 w a n f) (hf : Fit64 f) (hzf : ∀ i, n ≤ i → f i = 0) (hn : n ≤ 1048576) {k : Nat} (hk : tl f n = k) :
    Calls Ycum.prog 21 #[.slice a n cap] w fun e w' => ∃ p v, e = .returned (.pointer (some ⟨p, 0, none⟩)) ∧ Bts w' w.heap.size p v k f ∧ Below w.heap.size w w' := hk ▸ bmake_any a n cap f w hr hf hzf hn

set_option maxRecDepth 100000 in
set_option maxHeartbeats 1000000 in
theorem bundo (a : Option Addr) (n cap : Nat) (f : Nat → Nat) (i : Int) (wild : Bool) (w : World) (hr : Reads .u64 w a n f) (hf : Fit64 f) (hzf : ∀ i, n ≤ i → f i = 0) (hn : n ≤ cap) (hm : cap ≤ maxLen)
    (h1 : -9223372036854775808 ≤ i) (h2 : i ≤ 9223372036854775807) :
    Calls Ycum.prog 8 #[.slice a n cap, .int .i64 i, .bool wild] w fun e w' => e = .returned (.bool true) ∧ Below w.heap.size w w' := by
  unfold maxLen at hm
  by_cases hbig : 1024 < n
  · go_enter Ycum.func8, Ycum.ntmps8
    go_wp2_with fail
    go_ret
    exact ⟨rfl, Below.refl _ _⟩
  have HR : Hid (Reads .u64 w a n f) := hr
  have HF : Hid (Fit64 f) := hf
  have HZ : Hid (∀ i, n ≤ i → f i = 0) := hzf
  clear hr hf hzf
  have TK : Hid (Trimmed (tl f n) f) := tl_tl
  have hKn := tl_le f n
  obtain ⟨K, hK⟩ : ∃ K, tl f n = K := ⟨_, rfl⟩
  have HK : Hid (tl f n = K) := hK
  rw [hK] at TK hKn
  clear hK
  go_enter Ycum.func8, Ycum.ntmps8
  go_wp2_with fail
  refine Calls.mono (bmake_eq HR.out HF.out HZ.out (by omega) HK.out) ?_
  rintro e w1 ⟨p, v, rfl, b1, l1⟩
  have B1 : Hid (Bts w1 _ _ _ _ _) := b1
  have L1 : Hid (Below w.heap.size w w1) := l1
  have hz1 : w.heap.size ≤ w1.heap.size := l1.size
  clear b1 l1
  go_wp2_with fail
  refine Calls.mono (bmake_eq (HR.out.below L1.out) HF.out HZ.out (by omega) HK.out) ?_
  rintro e w2 ⟨q, u, rfl, b2, l2⟩
  have C2 : Hid (Bts w2 _ _ _ _ _) := b2
  have B2 : Hid (Bts w2 _ _ _ _ _) := B1.out.below l2 (Nat.le_refl _)
  have L2 : Hid (Below w.heap.size w w2) := L1.out.trans (l2.mono hz1)
  have hz2 : w.heap.size ≤ w2.heap.size := L2.out.size
  have AP : Hid (q ≠ p ∧ _) := apart B1.out b2
  clear b2 l2 B1 L1 HR HZ HK
  obtain ⟨a1, k1, rfl, r1, m1, m2, _⟩ := B2.out.slice
  have RB : Hid (Reads .u64 w2 a1 K f) := r1
  have cb := B2.out.cell
  clear r1
  go_wp2_with fail
  refine Calls.mono (bplace_any i wild K w2 h1 h2 (by omega)) ?_
  rintro e w3 ⟨j, rfl, j1, j2, rfl⟩
  clear h1 h2
  cases hb : memI f j
  · have HB : Hid (memI f j = false) := hb
    clear hb
    go_wp2_with fail
    refine Calls.mono (clear_out B2.out j2 HB.out) ?_
    rintro e w4 ⟨rfl, rfl⟩
    go_wp2_with fail
    refine Calls.mono (bmake_eq RB.out HF.out B2.out.zero (by omega) (tl_trim TK.out)) ?_
    rintro e w5 ⟨o, t, rfl, b5, l5⟩
    have O5 : Hid (Bts w5 _ _ _ _ _) := b5
    have B5 : Hid (Bts w5 _ _ _ _ _) := B2.out.below l5 (Nat.le_refl _)
    have C5 : Hid (Bts w5 _ _ _ _ _) := C2.out.below l5 (Nat.le_refl _)
    have L5 : Hid (Below w.heap.size w w5) := L2.out.trans (l5.mono hz2)
    clear b5 l5 B2 C2 L2 cb
    go_wp2_with fail
    refine Calls.mono (clear_out B5.out j2 HB.out) ?_
    rintro e w6 ⟨rfl, rfl⟩
    obtain ⟨a3, k3, rfl, r3, _, _, _⟩ := O5.out.slice
    obtain ⟨a4, k4, rfl, r4, _, _, _⟩ := C5.out.slice
    have r1 := B5.out.own.reads
    have R1 : Hid (Reads .u64 w6 a1 K f) := r1
    have R3 : Hid (Reads .u64 w6 a3 K f) := r3
    have R4 : Hid (Reads .u64 w6 a4 K f) := r4
    have cb := B5.out.cell
    have co := O5.out.cell
    have cc := C5.out.cell
    clear r1 r3 r4 O5 B5 C5
    go_wp2_with fail
    go_quiet ((go_at_call 25; exact Calls.quiet_of (bsame_eq (((Still.refl _).drewN _).reads R1.out) (((Still.refl _).drewN _).reads R3.out) (by omega) (eqB_same rfl fun _ _ => rfl))))
    have S7 : Still w6 (w6.drewN nq) := (Still.refl _).drewN _
    have R1' : Hid (Reads .u64 (w6.drewN nq) a1 K f) := S7.reads R1.out
    have R4' : Hid (Reads .u64 (w6.drewN nq) a4 K f) := S7.reads R4.out
    have L7 : Hid (Below w.heap.size w (w6.drewN nq)) := L5.out.trans S7.below
    have cb' := (S7.cell ⟨p, 0, none⟩).trans cb
    have cc' := (S7.cell ⟨q, 0, none⟩).trans cc
    clear S7 R1 R4 L5 cb cc co R3
    generalize w6.drewN nq = w7 at *
    go_wp2_with fail
    go_quiet ((go_at_call 25; exact Calls.quiet_of (bsame_eq (((Still.refl _).drewN _).reads R1'.out) (((Still.refl _).drewN _).reads R4'.out) (by omega) (eqB_same rfl fun _ _ => rfl))))
    go_wp2_with fail
    go_ret
    exact ⟨by simp, L7.out.trans ((Still.refl _).drewN _).below⟩
  · obtain ⟨x, rfl, hmem⟩ := memI_pos hb
    have HM : Hid (mem f x = true) := hmem
    clear hb hmem
    have hx := mem_lt B2.out.zero HM.out
    have HBZ : Hid (∀ i, K ≤ i → clr f x i = 0) := clr_zero B2.out.zero x
    have T1 : Hid (Trimmed (tl (clr f x) K) (clr f x)) := tl_tl
    have hM := tl_le (clr f x) K
    have HB : Hid (memI (clr f x) (x : Int) = false) := memI_clr HF.out x
    have HS : Hid (setf (clr f x) x = f) := set_clr HF.out HM.out
    have FC : Hid (Fit64 (clr f x)) := clr_fit HF.out x
    have HL : Hid (max (tl (clr f x) K) (x / 64 + 1) = K) := by
      have t := trimmed_setf T1.out x
      rw [HS.out] at t
      refine trimmed_len t TK.out (fun i hi => ?_) B2.out.zero
      have := setf_zero (tl_zeros HBZ.out) x i hi
      rw [HS.out] at this
      exact this
    have CI : Hid _ := clear_in B2.out (by omega) HM.out
    generalize tl (clr f x) K = M at *
    go_wp2_with fail
    refine Calls.mono CI.out ?_
    rintro e w4 ⟨rfl, v4, b4, t4⟩
    have C4 : Hid (Bts w4 _ _ _ _ _) := t4.other B2.out C2.out AP.out.1 AP.out.2
    have AP4 : Hid (_ ∨ _) := touch_apart t4 C2.out AP.out.2
    have L4 : Hid (Below w.heap.size w w4) := L2.out.trans (t4.below B2.out (Nat.le_refl _) hz2)
    have hz4 : w.heap.size ≤ w4.heap.size := L4.out.size
    have B4 : Hid (Bts w4 _ _ _ _ _) := b4
    obtain ⟨a4, k4, rfl, r4, _, _, _⟩ := b4.slice
    have cb4 := b4.cell
    have R4 : Hid (Reads .u64 w4 a4 M (clr f x)) := r4
    clear b4 t4 B2 C2 L2 cb r4 CI
    go_wp2_with fail
    refine Calls.mono (bmake_eq R4.out FC.out B4.out.zero (by omega) (tl_trim T1.out)) ?_
    rintro e w5 ⟨o, t, rfl, b5, l5⟩
    have O5 : Hid (Bts w5 _ _ _ _ _) := b5
    have B5 : Hid (Bts w5 _ _ _ _ _) := B4.out.below l5 (Nat.le_refl _)
    have C5 : Hid (Bts w5 _ _ _ _ _) := C4.out.below l5 (Nat.le_refl _)
    have L5 : Hid (Below w.heap.size w w5) := L4.out.trans (l5.mono hz4)
    clear b5 l5 B4 C4 L4 cb4 R4
    go_wp2_with fail
    refine Calls.mono (clear_out B5.out j2 HB.out) ?_
    rintro e w6 ⟨rfl, rfl⟩
    obtain ⟨a3, k3, rfl, r3, _, _, _⟩ := O5.out.slice
    have r1 := B5.out.own.reads
    have R1 : Hid (Reads .u64 w6 a4 M (clr f x)) := r1
    have R3 : Hid (Reads .u64 w6 a3 M (clr f x)) := r3
    have cb := B5.out.cell
    have co := O5.out.cell
    have hz6 : w.heap.size ≤ w6.heap.size := L5.out.size
    clear r1 r3 O5
    go_wp2_with fail
    go_quiet ((go_at_call 25; exact Calls.quiet_of (bsame_eq (((Still.refl _).drewN _).reads R1.out) (((Still.refl _).drewN _).reads R3.out) (by omega) (eqB_same rfl fun _ _ => rfl))))
    have S7 : Hid (Still w6 (w6.drewN nq)) := (Still.refl _).drewN _
    go_wp2_with fail
    refine Calls.mono (set_in p _ _ M (clr f x) x _ (B5.out.still S7.out) (by omega) (by omega) hz6) ?_
    rintro e w8 ⟨rfl, v8, b8, t8⟩
    rw [HL.out, HS.out] at b8
    have C8 : Hid (Bts w8 _ _ _ _ _) := t8.other (B5.out.still S7.out) (C5.out.still S7.out) AP.out.1 AP4.out
    have L8 : Hid (Below w.heap.size w w8) := (L5.out.trans S7.out.below).trans (t8.below (B5.out.still S7.out) (Nat.le_refl _) hz6)
    obtain ⟨a8, k8, rfl, r8, _, _, _⟩ := b8.slice
    obtain ⟨a9, k9, rfl, r9, _, _, _⟩ := C8.out.slice
    have cb8 := b8.cell
    have cc8 := C8.out.cell
    have R8 : Hid (Reads .u64 w8 a8 K f) := r8
    have R9 : Hid (Reads .u64 w8 a9 K f) := r9
    clear b8 t8 r8 r9 C8 B5 C5 L5 R1 R3 cb co
    go_wp2_with fail
    go_quiet ((go_at_call 25; exact Calls.quiet_of (bsame_eq (((Still.refl _).drewN _).reads R8.out) (((Still.refl _).drewN _).reads R9.out) (by omega) (eqB_same rfl fun _ _ => rfl))))
    go_wp2_with fail
    go_ret
    exact ⟨by simp, L8.out.trans ((Still.refl _).drewN _).below⟩

end Go.Proofs.Ymbrcu.BLaws
