/-
  THE WALK OF LawS930007LExtra.
-/
import Derived.Test.YmbrcwLElems
namespace Go.Proofs.Ymbrcw.LLaws
open Go.RowKit Go.Proofs.Ymbrcw
set_option linter.unusedVariables false

theorem setI_twice_mem (G : Nat → Nat) (x : Nat) (hx : x < 1048576) (j : Int) : memI (setI (setI G (x : Int)) (x : Int)) j = true ↔ memI G j = true ∨ (x : Int) = j := by
  rw [memI_setI, memI_setI, inR_nat hx]
  simp only [Bool.or_eq_true, Bool.and_eq_true, decide_eq_true_iff, true_and]
  constructor
  · rintro ((h | h) | h)
    · exact .inl h
    · exact .inr h.symm
    · exact .inr h.symm
  · rintro (h | h)
    · exact .inl (.inl h)
    · exact .inr h.symm

set_option maxRecDepth 100000 in
set_option maxHeartbeats 1000000 in
theorem lextra (a : Option Addr) (n cap : Nat) (f : Nat → Nat) (x : Nat) (w : World) (hr : Reads .u32 w a n f) (hf : ∀ i, f i < 4294967296) (hx : x < 4294967296)
    (hn : n ≤ cap) (hm : cap ≤ maxLen) :
    Calls Ycwm.prog 13 #[.slice a n cap, .int .u32 x] w fun e w' => e = .returned (.bool true) ∧ Below w.heap.size w w' := by
  unfold maxLen at hm
  by_cases hbig : 1024 < n
  · clear hr
    go_enter Ycwm.func13, Ycwm.ntmps13
    go_wp2_with fail
    go_ret
    exact ⟨rfl, Below.refl _ _⟩
  have d1 : decide ((1024 : Int) < (n : Int)) = false := decide_eq_false (by omega)
  have C1 : Hid _ := lelems_any a n cap f w hr hf (by omega)
  clear hr hf
  obtain ⟨h, hh⟩ : ∃ h : Nat → Nat, h = fun i => le29 (f i) := ⟨_, rfl⟩
  have HL : Hid (∀ i, h i < 1048576) := fun i => by rw [hh]; exact le29_lt _
  rw [← hh] at C1
  clear hh
  obtain ⟨y, hy⟩ : ∃ y, le29 x = y := ⟨_, rfl⟩
  have CX : Hid (∀ w, _) := lelem_any x hx
  have hyl : y < 1048576 := by rw [← hy]; exact le29_lt _
  rw [hy] at CX
  clear hy
  go_enter Ycwm.func13, Ycwm.ntmps13
  go_wp2_with fail
  refine Calls.mono C1.out ?_
  rintro e w1 ⟨rfl, o1, b1⟩
  have O1 : Hid (Own _ _ _ _ _ _ _) := o1
  have W1 : Hid (Below w.heap.size w w1) := b1
  have s1 : w.heap.size ≤ w1.heap.size := b1.size
  clear o1 b1
  go_wp2_with fail
  refine Calls.mono (CX.out _) ?_
  rintro e w2 ⟨rfl, rfl⟩
  have C3 : Hid _ := from_ok (cap := n) O1.out.reads.toI (by unfold maxLen; omega) (fun i _ => inR_nat (HL.out i))
  go_wp2_with fail
  refine Calls.mono C3.out ?_
  rintro e w3 ⟨p, v, rfl, b3, bel3⟩
  have B3 : Hid (Bts _ _ _ _ _ _) := b3
  have O3 : Hid (Own _ _ _ _ _ _ _) := O1.out.below bel3 (Nat.le_refl _)
  have W3 : Hid (Below w.heap.size w w3) := W1.out.trans (bel3.mono s1)
  have s3 : w.heap.size ≤ w3.heap.size := W3.out.size
  clear b3 bel3
  have D4 : Hid (Bts _ w3.heap.size w3.heap.size _ _ _) := bts_new w3 w3.heap.size (Nat.le_refl _)
  have L4 : Hid (Below w3.heap.size w3 (w3.alloc (.cells #[.slice none 0 0] 37))) := (Below.refl _ _).alloc (Nat.le_refl _) _
  generalize hF : fe (fun i => (h i : Int)) n = F at *
  generalize hN : fn (fun i => (h i : Int)) n = N at *
  have HF : Kept (∀ j : Int, memI F j = occ h n j) := Kept.mk (fun j => by rw [← hF]; exact memI_fe_nat HL.out j)
  have HT : Kept (Trimmed N F) := Kept.mk (by rw [← hF, ← hN]; exact fe_trimmed _ _)
  clear hF hN
  go_wp2_with fail
  go_loopw [10] (fun t wr => ∃ (k M : Nat) (G : Nat → Nat) (u : Value), k ≤ n ∧ t = .int .i64 ((k : Int) - 1) ∧ Bts wr w3.heap.size w3.heap.size u M G ∧ Trimmed M G ∧ M ≤ 16384 ∧ (∀ j : Int, memI G j = true ↔ ∃ i, k ≤ i ∧ i < n ∧ (h i : Int) = j) ∧ Below w3.heap.size w3 wr) (fun t _ => (intOf t + 1).toNat)
  case atStart =>
    refine ⟨n, 0, fun _ => 0, _, Nat.le_refl _, rfl, D4.out, .inl rfl, by omega, fun j => ?_, L4.out⟩
    rw [memI_empty]
    constructor
    · intro c; cases c
    · rintro ⟨i, h1, h2, _⟩; omega
  case round =>
    clear D4 L4
    obtain ⟨k, M, G, u, hk, rfl, hb, ht, hM, hmem, hbel⟩ := hrel
    have HB : Hid (Bts _ _ _ _ _ _) := hb
    have HTr : Kept (Trimmed M G) := Kept.mk ht
    have HM : Kept (∀ j : Int, memI G j = true ↔ ∃ i, k ≤ i ∧ i < n ∧ (h i : Int) = j) := Kept.mk hmem
    have HW : Hid (Below _ _ _) := hbel
    have hz : w3.heap.size ≤ wr.heap.size := hbel.size
    clear hb ht hmem hbel
    rcases Nat.eq_zero_or_pos k with hk0 | hk0
    · subst hk0
      have B5 : Hid (Bts _ _ _ _ _ _) := B3.out.below HW.out (Nat.le_refl _)
      have O5 : Hid (Own _ _ _ _ _ _ _) := O3.out.below HW.out (Nat.le_refl _)
      have HFG : Kept (∀ j : Int, memI F j = memI G j) := Kept.mk (fun j => by
        rw [HF.out, Bool.eq_iff_iff, occ_iff, HM.out]
        constructor
        · rintro ⟨i, hi, e⟩; exact ⟨i, by omega, hi, e⟩
        · rintro ⟨i, _, hi, e⟩; exact ⟨i, hi, e⟩)
      have HE1 : Kept (eqB N F M G = true) := Kept.mk (eqB_of_mem HT.out HTr.out B5.out.zero HB.out.zero B5.out.fit HB.out.fit HFG.out)
      have HE2 : Kept (eqB M G N F = true) := Kept.mk ((eqB_symm _ _ _ _).trans HE1.out)
      go_wp2_with fail
      refine Calls.mono (equal_bts B5.out HB.out HE1.out _ (Still.refl _)) ?_
      rintro e w6 ⟨rfl, s6⟩
      go_wp2_with fail
      refine Calls.mono (equal_bts HB.out B5.out HE2.out _ s6) ?_
      rintro e w7 ⟨rfl, s7⟩
      go_wp2_with fail
      refine Calls.mono (set_eq (HB.out.still s7) (by omega) (by rw [s7.heap]; exact hz) (inR_nat hyl)) ?_
      rintro e w8 ⟨rfl, u8, b8, t8⟩
      have C8 : Hid (Bts _ _ _ _ _ _) := b8
      have hsep := sep_base B3.out HB.out (Nat.le_refl _)
      have B8 : Hid (Bts _ _ _ _ _ _) := t8.other (HB.out.still s7) (B5.out.still s7) hsep.1 hsep.2
      have L8 : Hid (Below w3.heap.size wr w8) := s7.below.trans (t8.below (HB.out.still s7) (Nat.le_refl _) (by rw [s7.heap]; exact hz))
      have O8 : Hid (Own _ _ _ _ _ _ _) := O3.out.below (HW.out.trans L8.out) (Nat.le_refl _)
      have W8 : Hid (Below w.heap.size w w8) := W3.out.trans ((HW.out.trans L8.out).mono s3)
      clear b8 t8 hsep s7 s6
      have HE3 : Kept (eqB N F (setN M (y : Int)) (setI G (y : Int)) = occ h n (y : Int)) := Kept.mk (by
        rw [Bool.eq_iff_iff, eqB_mem_iff HT.out (trimmed_setI HTr.out _) B8.out.zero C8.out.zero B8.out.fit C8.out.fit]
        constructor
        · intro e
          have := e (y : Int)
          rw [memI_setI, inR_nat hyl, HF.out] at this
          rw [this]; simp
        · intro e j
          rw [memI_setI, inR_nat hyl, ← HFG.out]
          by_cases hj : j = (y : Int)
          · rw [hj, HF.out, e]; simp
          · rw [decide_eq_false hj]; simp)
      have HE4 : Kept (eqB (setN M (y : Int)) (setI G (y : Int)) N F = occ h n (y : Int)) := Kept.mk ((eqB_symm _ _ _ _).trans HE3.out)
      cases ho : occ h n (y : Int)
      all_goals
        have HO : Kept (occ h n (y : Int) = _) := Kept.mk ho
        rw [ho] at HE3 HE4
        clear ho
        go_wp2_with fail
        refine Calls.mono (lin_eq O8.out.reads.toI (by omega) HO.out) ?_
        rintro e w9 ⟨rfl, rfl⟩
        go_wp2_with fail
        refine Calls.mono (equal_bts B8.out C8.out HE3.out _ (Still.refl _)) ?_
        rintro e w10 ⟨rfl, s10⟩
        go_wp2_with fail
        refine Calls.mono (equal_bts C8.out B8.out HE4.out _ s10) ?_
        rintro e w11 ⟨rfl, s11⟩
        go_wp2_with fail
        go_ret
        exact ⟨rfl, W8.out.trans s11.below⟩
    · have O5 : Hid (Own _ _ _ _ _ _ _) := O3.out.below HW.out (Nat.le_refl _)
      have c1 := O5.out.cell (k - 1) (by omega)
      have hin := HL.out (k - 1)
      have HCell : Hid (∀ wx, Below w3.heap.size w3 wx → wx.cell? ⟨w.heap.size, k - 1, none⟩ = some (.int .i64 (h (k - 1)))) := fun wx hwx => (O3.out.below hwx (Nat.le_refl _)).cell (k - 1) (by omega)
      have HNew : Kept (∀ j : Int, memI (setI (setI G (h (k - 1) : Int)) (h (k - 1) : Int)) j = true ↔ ∃ i, k - 1 ≤ i ∧ i < n ∧ (h i : Int) = j) := Kept.mk (fun j => by
        rw [setI_twice_mem _ _ hin, HM.out]
        constructor
        · rintro (⟨i, h1, h2, e⟩ | e)
          · exact ⟨i, by omega, h2, e⟩
          · exact ⟨k - 1, Nat.le_refl _, by omega, e⟩
        · rintro ⟨i, h1, h2, e⟩
          by_cases hik : i = k - 1
          · subst hik; exact .inr e
          · exact .inl ⟨i, by omega, h2, e⟩)
      generalize h (k - 1) = z at *
      have ek : ((k : Int) - 1) = ((k - 1 : Nat) : Int) := by omega
      have hM1 : setN M (z : Int) ≤ 16384 := setN_le _ hM (Nat.le_refl _)
      have hM2 : setN (setN M (z : Int)) (z : Int) ≤ 16384 := setN_le _ hM1 (Nat.le_refl _)
      have HI : Kept (inR (z : Int) = true) := Kept.mk (inR_nat hin)
      rw [ek]
      have EK : Kept (((k : Int) - 1) = ((k - 1 : Nat) : Int)) := Kept.mk ek
      clear ek
      obtain ⟨m, hm'⟩ : ∃ m, k - 1 = m := ⟨_, rfl⟩
      have hkm : k = m + 1 := by omega
      subst hkm
      simp only [Nat.add_sub_cancel] at *
      clear hm'
      go_wp2_with fail
      refine Calls.mono (set_eq HB.out (by omega) hz HI.out) ?_
      rintro e w5 ⟨rfl, u5, b5, t5⟩
      have B5 : Hid (Bts _ _ _ _ _ _) := b5
      have W5 : Hid (Below _ _ _) := HW.out.trans (t5.below HB.out (Nat.le_refl _) hz)
      have hz5 : w3.heap.size ≤ w5.heap.size := Nat.le_trans hz t5.size
      have c5 := HCell.out _ W5.out
      clear b5 t5 c1
      go_wp2_with fail
      refine Calls.mono (set_eq B5.out (by omega) hz5 HI.out) ?_
      rintro e w6 ⟨rfl, u6, b6, t6⟩
      have B6 : Hid (Bts _ _ _ _ _ _) := b6
      have W6 : Hid (Below _ _ _) := W5.out.trans (t6.below B5.out (Nat.le_refl _) hz5)
      clear b6 t6 c5
      go_wp2_with fail
      go_roundw
      case rel => exact ⟨m, _, _, u6, by omega, by go_num, B6.out, trimmed_setI (trimmed_setI HTr.out _) _, hM2, HNew.out, W6.out⟩
      case measure => simp [intOf]
end Go.Proofs.Ymbrcw.LLaws
