/-
  THE WALK OF LawS930007CElems.
-/
import Derived.Test.YmbrcuCElems
namespace Go.Proofs.Ymbrcu.CLaws
open Go.RowKit Go.Proofs.Ymbrcu
set_option linter.unusedVariables false

set_option maxRecDepth 100000 in
set_option maxHeartbeats 2000000 in
theorem celems_law (a a' : Option Addr) (n cap m cap' : Nat) (f f' : Nat → Nat) (q : Int) (w : World) (hr : Reads .u32 w a n f) (hf : ∀ i, f i < 4294967296) (hr' : Reads .u32 w a' m f') (hf' : ∀ i, f' i < 4294967296)
    (hn : n ≤ cap) (hm : cap ≤ maxLen) (hn' : m ≤ cap') (hm' : cap' ≤ maxLen) (h1 : -9223372036854775808 ≤ q) (h2 : q ≤ 9223372036854775807) :
    Calls Ycum.prog 10 #[.slice a n cap, .slice a' m cap', .int .i64 q] w fun e w' => e = .returned (.bool true) ∧ Below w.heap.size w w' := by
  unfold maxLen at hm hm'
  by_cases hbig : 1024 < n
  · have d1 : decide ((1024 : Int) < (n : Int)) = true := decide_eq_true (by omega)
    clear hr hr'
    go_enter Ycum.func10, Ycum.ntmps10
    go_wp2_with fail
    go_ret
    exact ⟨rfl, Below.refl _ _⟩
  have d1 : decide ((1024 : Int) < (n : Int)) = false := decide_eq_false (by omega)
  by_cases hbig' : 1024 < m
  · have d2 : decide ((1024 : Int) < (m : Int)) = true := decide_eq_true (by omega)
    clear hr hr'
    go_enter Ycum.func10, Ycum.ntmps10
    go_wp2_with fail
    go_ret
    exact ⟨rfl, Below.refl _ _⟩
  have d2 : decide ((1024 : Int) < (m : Int)) = false := decide_eq_false (by omega)
  have HR' : Hid (Reads .u32 w a' m f') := hr'
  have HF' : Hid (∀ i, f' i < 4294967296) := hf'
  have C1 : Hid _ := celems_any a n cap f w hr hf (by omega)
  clear hr hf hr' hf'
  obtain ⟨h, hh⟩ : ∃ h : Nat → Nat, h = fun i => ce41 (f i) := ⟨_, rfl⟩
  obtain ⟨h', hh'⟩ : ∃ h' : Nat → Nat, h' = fun i => ce41 (f' i) := ⟨_, rfl⟩
  have HL : Hid (∀ i, h i < 1048576) := fun i => by rw [hh]; exact ce41_lt _
  have HL' : Hid (∀ i, h' i < 1048576) := fun i => by rw [hh']; exact ce41_lt _
  rw [← hh] at C1
  clear hh
  have HH' : Kept (h' = fun i => ce41 (f' i)) := Kept.mk hh'
  clear hh'
  go_enter Ycum.func10, Ycum.ntmps10
  go_wp2_with fail
  refine Calls.mono C1.out ?_
  rintro e w1 ⟨rfl, o1, b1⟩
  have O1 : Hid (Own _ _ _ _ _ _ _) := o1
  have W1 : Hid (Below w.heap.size w w1) := b1
  have C2 : Hid _ := celems_any a' m cap' f' w1 (HR'.out.below b1) HF'.out (by omega)
  rw [← HH'.out] at C2
  have s1 : w.heap.size ≤ w1.heap.size := b1.size
  clear o1 b1 HH'
  go_wp2_with fail
  refine Calls.mono C2.out ?_
  rintro e w2 ⟨rfl, o2, b2⟩
  have O2 : Hid (Own _ _ _ _ _ _ _) := o2
  have P2 : Hid (Own _ _ _ _ _ _ _) := O1.out.below b2 (Nat.le_refl _)
  have W2 : Hid (Below w.heap.size w w2) := W1.out.trans (b2.mono s1)
  have s2 : w1.heap.size ≤ w2.heap.size := b2.size
  clear o2 b2
  generalize w1.heap.size = g1 at *
  have C3 : Hid _ := from_ok (cap := n) P2.out.reads.toI (by unfold maxLen; omega) (fun i _ => inR_nat (HL.out i))
  go_wp2_with fail
  refine Calls.mono C3.out ?_
  rintro e w3 ⟨p, v, rfl, b3, bel3⟩
  have B3 : Hid (Bts _ _ _ _ _ _) := b3
  have O3 : Hid (Own _ _ _ _ _ _ _) := O2.out.below bel3 (Nat.le_refl _)
  have P3 : Hid (Own _ _ _ _ _ _ _) := P2.out.below bel3 (Nat.le_refl _)
  have W3 : Hid (Below w.heap.size w w3) := W2.out.trans (bel3.mono (by omega))
  have s3 : w2.heap.size ≤ w3.heap.size := bel3.size
  clear b3 bel3
  have C4 : Hid _ := from_ok (cap := m) O3.out.reads.toI (by unfold maxLen; omega) (fun i _ => inR_nat (HL'.out i))
  go_wp2_with fail
  refine Calls.mono C4.out ?_
  rintro e w4 ⟨r, u, rfl, b4, bel4⟩
  have D4 : Hid (Bts _ _ _ _ _ _) := b4
  have B4 : Hid (Bts _ _ _ _ _ _) := B3.out.below bel4 (Nat.le_refl _)
  have O4 : Hid (Own _ _ _ _ _ _ _) := O3.out.below bel4 (Nat.le_refl _)
  have P4 : Hid (Own _ _ _ _ _ _ _) := P3.out.below bel4 (Nat.le_refl _)
  have W4 : Hid (Below w.heap.size w w4) := W3.out.trans (bel4.mono (by omega))
  have s4 : w.heap.size ≤ w4.heap.size := W4.out.size
  clear b4 bel4
  have hfn1 := fn_le (fun i => (h i : Int)) n
  have hfn2 := fn_le (fun i => (h' i : Int)) m
  have C5 : Hid _ := union_bts B4.out D4.out (by omega) (by omega)
  go_wp2_with fail
  refine Calls.mono C5.out ?_
  rintro e w5 ⟨z, uu, rfl, b5, bel5⟩
  obtain ⟨F, hF⟩ : ∃ F : Nat → Nat, F = fun i => fe (fun i => (h i : Int)) n i ||| fe (fun i => (h' i : Int)) m i := ⟨_, rfl⟩
  obtain ⟨N, hN⟩ : ∃ N, N = max (fn (fun i => (h i : Int)) n) (fn (fun i => (h' i : Int)) m) := ⟨_, rfl⟩
  rw [← hF, ← hN] at b5
  have HM : Kept (∀ j : Int, memI F j = (occ h n j || occ h' m j)) := Kept.mk (fun j => by rw [hF, memI_or, memI_fe_nat HL.out, memI_fe_nat HL'.out])
  have HT : Kept (Trimmed N F) := Kept.mk (by rw [hF, hN]; exact trimmed_or (fe_trimmed _ _) (fe_trimmed _ _))
  have hNl : N ≤ 16384 := by omega
  clear hF hN hfn1 hfn2
  have U5 : Hid (Bts _ _ _ _ _ _) := b5
  have O5 : Hid (Own _ _ _ _ _ _ _) := O4.out.below bel5 (Nat.le_refl _)
  have P5 : Hid (Own _ _ _ _ _ _ _) := P4.out.below bel5 (Nat.le_refl _)
  have W5 : Hid (Below w.heap.size w w5) := W4.out.trans (bel5.mono s4)
  have s5 : w.heap.size ≤ w5.heap.size := W5.out.size
  clear b5 bel5
  have HQ : Kept (memI F q = (occ h n q || occ h' m q)) := Kept.mk (HM.out q)
  clear C1 C2 C3 C4 C5
  obtain ⟨J, hJ⟩ : ∃ J : Nat → Nat, J = jn h n h' := ⟨_, rfl⟩
  have HJ1 : Kept (∀ i, i < n → J i = h i) := Kept.mk (fun i hi => by rw [hJ]; exact jn_left h h' hi)
  have HJ2 : Kept (∀ i, J (n + i) = h' i) := Kept.mk (fun i => by rw [hJ]; exact jn_right h h' n i)
  have HJL : Hid (∀ i, J i < 1048576) := fun i => by
    rw [hJ]; unfold jn
    split
    · exact HL.out _
    · exact HL'.out _
  have HJM : Kept (∀ j : Int, memI F j = memI (fe (fun i => (J i : Int)) (n + m)) j) := Kept.mk (fun j => by rw [memI_fe_nat HJL.out, HM.out, hJ, occ_jn])
  clear hJ
  cases ho1 : occ h n q
  · cases ho2 : occ h' m q
    all_goals
      have HO1 : Kept (occ h n q = false) := Kept.mk ho1
      have HO2 : Kept (occ h' m q = _) := Kept.mk ho2
      rw [ho1, ho2] at HQ
      clear ho1 ho2
      go_wp2_with fail
      refine Calls.mono (has_eq U5.out h2 HQ.out) ?_
      rintro e wx ⟨rfl, rfl⟩
      go_wp2_with fail
      refine Calls.mono (cin_eq P5.out.reads.toI (by omega) HO1.out) ?_
      rintro e wx ⟨rfl, rfl⟩
      go_wp2_with fail
      refine Calls.mono (cin_eq O5.out.reads.toI (by omega) HO2.out) ?_
      rintro e w6 ⟨rfl, rfl⟩
      go_wp2_with (first | (at_make; refine wpList_make _ rfl _ _ 34 rfl 3 .i64 Ycum.underlying34 info_int _ _ _ _ (n + m) rfl rfl (by omega) (by omega) (by omega) w6.heap.size rfl ?_))
      intro w7 o7 b7 _ z7
      have Q7 : Hid (Own _ _ _ _ _ _ _) := o7
      have L7 : Hid (Below w6.heap.size w6 w7) := b7
      clear o7 b7 z7
      go_wp2_with fail
      go_loopw [15] (fun t wr => ∃ k : Nat, k ≤ n ∧ t = .int .i64 k ∧ Own 3 .i64 wr w6.heap.size (.slice (some ⟨w6.heap.size, 0, none⟩) (n + m) (n + m)) (n + m) (upto J k) ∧ Below w6.heap.size w6 wr) (fun t _ => n - (intOf t).toNat)
      case atStart => exact ⟨0, by omega, rfl, by rw [upto_zero]; exact Q7.out, L7.out⟩
      case round =>
        clear Q7 L7
        obtain ⟨k, hk, rfl, o1, hb⟩ := hrel
        by_cases hlt : k < n
        · have c0 := (P5.out.below hb (Nat.le_refl _)).cell k hlt
          rw [← HJ1.out k hlt] at c0
          have c1 := o1.cell k (by omega)
          have f1 := o1.frozen k
          have R1 : Hid (Own _ _ _ _ _ _ _) := o1.set k (J k)
          have R3 : Hid (Below _ _ _) := hb.setCell (p := ⟨w6.heap.size, k, none⟩) (Nat.le_refl _) (.int .i64 (J k))
          have HU : Hid (upd (upto J k) k (J k) = upto J (k + 1)) := upto_succ J k
          have hlk := HJL.out k
          generalize J k = y at *
          clear o1 hb
          go_wp2_with fail
          go_roundw
          case rel => exact ⟨k + 1, by omega, by go_num, by rw [← HU.out]; exact R1.out, R3.out⟩
          case measure => simp [intOf]; omega
        · obtain rfl : k = n := by omega
          have Q8 : Hid (Own _ _ _ _ _ _ _) := o1
          have L8 : Hid (Below w6.heap.size w6 wr) := hb
          clear o1 hb
          go_wp2_with fail
          go_loopw [16] (fun t wr => ∃ i : Nat, i ≤ m ∧ t = .int .i64 i ∧ Own 3 .i64 wr w6.heap.size (.slice (some ⟨w6.heap.size, 0, none⟩) (k + m) (k + m)) (k + m) (upto J (k + i)) ∧ Below w6.heap.size w6 wr) (fun t _ => m - (intOf t).toNat)
          case atStart => exact ⟨0, by omega, rfl, Q8.out, L8.out⟩
          case round =>
            clear Q8 L8
            obtain ⟨i, hi, rfl, o1, hb⟩ := hrel
            by_cases him : i < m
            · have c0 := (O5.out.below hb (Nat.le_refl _)).cell i him
              rw [← HJ2.out i] at c0
              have c1 := o1.cell (k + i) (by omega)
              have f1 := o1.frozen (k + i)
              have R1 : Hid (Own _ _ _ _ _ _ _) := o1.set (k + i) (J (k + i))
              have R3 : Hid (Below _ _ _) := hb.setCell (p := ⟨w6.heap.size, k + i, none⟩) (Nat.le_refl _) (.int .i64 (J (k + i)))
              have HU : Hid (upd (upto J (k + i)) (k + i) (J (k + i)) = upto J (k + i + 1)) := upto_succ J (k + i)
              have hlk := HJL.out (k + i)
              generalize J (k + i) = y at *
              clear o1 hb
              go_wp2_with fail
              go_roundw
              case rel => exact ⟨i + 1, by omega, by go_num, by show Own _ _ _ _ _ _ (upto J (k + i + 1)); rw [← HU.out]; exact R1.out, R3.out⟩
              case measure => simp [intOf]; omega
            · obtain rfl : i = m := by omega
              have R1 : Hid (Own _ _ _ _ _ _ J) := o1.congr fun j hj => by unfold upto; rw [if_pos hj]
              have L9 : Hid (Below w6.heap.size w6 wr) := hb
              have s9 : w6.heap.size ≤ wr.heap.size := hb.size
              clear o1 hb
              have CF : Hid _ := from_ok (cap := k + i) R1.out.reads.toI (by unfold maxLen; omega) (fun j _ => inR_nat (HJL.out j))
              go_wp2_with fail
              refine Calls.mono CF.out ?_
              rintro e w10 ⟨dd, dv, rfl, b10, bel10⟩
              have U9 : Hid (Bts wr _ _ _ _ _) := U5.out.below L9.out (Nat.le_refl _)
              have U10 : Hid (Bts w10 _ _ _ _ _) := U9.out.below bel10 (Nat.le_refl _)
              have E10 : Hid (Bts w10 _ _ _ _ _) := b10
              have W10 : Hid (Below w.heap.size w w10) := (W5.out.trans (L9.out.mono s5)).trans (bel10.mono (by omega))
              have HE : Kept (eqB N F (fn (fun i => (J i : Int)) (k + i)) (fe (fun i => (J i : Int)) (k + i)) = true) := Kept.mk (eqB_of_mem HT.out (fe_trimmed _ _) U10.out.zero E10.out.zero U10.out.fit E10.out.fit HJM.out)
              clear b10 bel10
              go_wp2_with fail
              refine Calls.mono (equal_bts U10.out E10.out HE.out _ (Still.refl _)) ?_
              rintro e w11 ⟨rfl, s11⟩
              go_wp2_with fail
              go_ret
              exact ⟨rfl, W10.out.trans s11.below⟩
  · have HO1 : Kept (occ h n q = true) := Kept.mk ho1
    rw [ho1] at HQ
    clear ho1
    go_wp2_with fail
    refine Calls.mono (has_eq U5.out h2 HQ.out) ?_
    rintro e wx ⟨rfl, rfl⟩
    go_wp2_with fail
    refine Calls.mono (cin_eq P5.out.reads.toI (by omega) HO1.out) ?_
    rintro e w6 ⟨rfl, rfl⟩
    go_wp2_with (first | (at_make; refine wpList_make _ rfl _ _ 34 rfl 3 .i64 Ycum.underlying34 info_int _ _ _ _ (n + m) rfl rfl (by omega) (by omega) (by omega) w6.heap.size rfl ?_))
    intro w7 o7 b7 _ z7
    have Q7 : Hid (Own _ _ _ _ _ _ _) := o7
    have L7 : Hid (Below w6.heap.size w6 w7) := b7
    clear o7 b7 z7
    go_wp2_with fail
    go_loopw [15] (fun t wr => ∃ k : Nat, k ≤ n ∧ t = .int .i64 k ∧ Own 3 .i64 wr w6.heap.size (.slice (some ⟨w6.heap.size, 0, none⟩) (n + m) (n + m)) (n + m) (upto J k) ∧ Below w6.heap.size w6 wr) (fun t _ => n - (intOf t).toNat)
    case atStart => exact ⟨0, by omega, rfl, by rw [upto_zero]; exact Q7.out, L7.out⟩
    case round =>
      clear Q7 L7
      obtain ⟨k, hk, rfl, o1, hb⟩ := hrel
      by_cases hlt : k < n
      · have c0 := (P5.out.below hb (Nat.le_refl _)).cell k hlt
        rw [← HJ1.out k hlt] at c0
        have c1 := o1.cell k (by omega)
        have f1 := o1.frozen k
        have R1 : Hid (Own _ _ _ _ _ _ _) := o1.set k (J k)
        have R3 : Hid (Below _ _ _) := hb.setCell (p := ⟨w6.heap.size, k, none⟩) (Nat.le_refl _) (.int .i64 (J k))
        have HU : Hid (upd (upto J k) k (J k) = upto J (k + 1)) := upto_succ J k
        have hlk := HJL.out k
        generalize J k = y at *
        clear o1 hb
        go_wp2_with fail
        go_roundw
        case rel => exact ⟨k + 1, by omega, by go_num, by rw [← HU.out]; exact R1.out, R3.out⟩
        case measure => simp [intOf]; omega
      · obtain rfl : k = n := by omega
        have Q8 : Hid (Own _ _ _ _ _ _ _) := o1
        have L8 : Hid (Below w6.heap.size w6 wr) := hb
        clear o1 hb
        go_wp2_with fail
        go_loopw [16] (fun t wr => ∃ i : Nat, i ≤ m ∧ t = .int .i64 i ∧ Own 3 .i64 wr w6.heap.size (.slice (some ⟨w6.heap.size, 0, none⟩) (k + m) (k + m)) (k + m) (upto J (k + i)) ∧ Below w6.heap.size w6 wr) (fun t _ => m - (intOf t).toNat)
        case atStart => exact ⟨0, by omega, rfl, Q8.out, L8.out⟩
        case round =>
          clear Q8 L8
          obtain ⟨i, hi, rfl, o1, hb⟩ := hrel
          by_cases him : i < m
          · have c0 := (O5.out.below hb (Nat.le_refl _)).cell i him
            rw [← HJ2.out i] at c0
            have c1 := o1.cell (k + i) (by omega)
            have f1 := o1.frozen (k + i)
            have R1 : Hid (Own _ _ _ _ _ _ _) := o1.set (k + i) (J (k + i))
            have R3 : Hid (Below _ _ _) := hb.setCell (p := ⟨w6.heap.size, k + i, none⟩) (Nat.le_refl _) (.int .i64 (J (k + i)))
            have HU : Hid (upd (upto J (k + i)) (k + i) (J (k + i)) = upto J (k + i + 1)) := upto_succ J (k + i)
            have hlk := HJL.out (k + i)
            generalize J (k + i) = y at *
            clear o1 hb
            go_wp2_with fail
            go_roundw
            case rel => exact ⟨i + 1, by omega, by go_num, by show Own _ _ _ _ _ _ (upto J (k + i + 1)); rw [← HU.out]; exact R1.out, R3.out⟩
            case measure => simp [intOf]; omega
          · obtain rfl : i = m := by omega
            have R1 : Hid (Own _ _ _ _ _ _ J) := o1.congr fun j hj => by unfold upto; rw [if_pos hj]
            have L9 : Hid (Below w6.heap.size w6 wr) := hb
            have s9 : w6.heap.size ≤ wr.heap.size := hb.size
            clear o1 hb
            have CF : Hid _ := from_ok (cap := k + i) R1.out.reads.toI (by unfold maxLen; omega) (fun j _ => inR_nat (HJL.out j))
            go_wp2_with fail
            refine Calls.mono CF.out ?_
            rintro e w10 ⟨dd, dv, rfl, b10, bel10⟩
            have U9 : Hid (Bts wr _ _ _ _ _) := U5.out.below L9.out (Nat.le_refl _)
            have U10 : Hid (Bts w10 _ _ _ _ _) := U9.out.below bel10 (Nat.le_refl _)
            have E10 : Hid (Bts w10 _ _ _ _ _) := b10
            have W10 : Hid (Below w.heap.size w w10) := (W5.out.trans (L9.out.mono s5)).trans (bel10.mono (by omega))
            have HE : Kept (eqB N F (fn (fun i => (J i : Int)) (k + i)) (fe (fun i => (J i : Int)) (k + i)) = true) := Kept.mk (eqB_of_mem HT.out (fe_trimmed _ _) U10.out.zero E10.out.zero U10.out.fit E10.out.fit HJM.out)
            clear b10 bel10
            go_wp2_with fail
            refine Calls.mono (equal_bts U10.out E10.out HE.out _ (Still.refl _)) ?_
            rintro e w11 ⟨rfl, s11⟩
            go_wp2_with fail
            go_ret
            exact ⟨rfl, W10.out.trans s11.below⟩
end Go.Proofs.Ymbrcu.CLaws
