/-
  THE WALK OF LawS930007GMembers.
-/
import Derived.Test.YmbrcvGBuild
import Derived.Test.YmbrcvFlag
import Derived.Deep.QuietTactic
import Derived.BigQuiet
namespace Go.Proofs.Ymbrcv.GLaws
open Go.RowKit Go.Proofs.Ymbrcv
set_option linter.unusedVariables false

theorem info_flags : (Ycvm.prog.info? 45).map (fun i => i.zero) = some (some (.agg (Array.replicate 400 (.bool false)))) := by kernel_rfl

theorem occ_flag (h : Nat → Nat) (k j : Nat) : (occ h k (j : Int) || j == h k) = occ h (k + 1) (j : Int) := by
  rw [occ_succ]
  congr 1
  rw [Bool.eq_iff_iff]
  simp
  omega
theorem memI_and (F G : Nat → Nat) (j : Int) : memI (fun i => F i &&& G i) j = (memI F j && memI G j) := by
  unfold memI
  split
  · rfl
  · unfold mem; rw [Nat.testBit_and]

set_option maxRecDepth 100000 in
set_option maxHeartbeats 2000000 in
theorem gmembers (a a' : Option Addr) (n cap m cap' : Nat) (f f' : Nat → Nat) (w : World) (hr : Reads .u16 w a n f) (hf : ∀ i, f i < 65536) (hr' : Reads .u16 w a' m f') (hf' : ∀ i, f' i < 65536)
    (hn : n ≤ cap) (hm : cap ≤ maxLen) (hn' : m ≤ cap') (hm' : cap' ≤ maxLen) :
    Calls Ycvm.prog 10 #[.slice a n cap, .slice a' m cap'] w fun e w' => e = .returned (.bool true) ∧ Below w.heap.size w w' := by
  unfold maxLen at hm hm'
  by_cases hbig : 1024 < n
  · have d1 : decide ((1024 : Int) < (n : Int)) = true := decide_eq_true (by omega)
    clear hr hr'
    go_enter Ycvm.func10, Ycvm.ntmps10
    go_wp2_with fail
    go_ret
    exact ⟨rfl, Below.refl _ _⟩
  have d1 : decide ((1024 : Int) < (n : Int)) = false := decide_eq_false (by omega)
  by_cases hbig' : 1024 < m
  · have d2 : decide ((1024 : Int) < (m : Int)) = true := decide_eq_true (by omega)
    clear hr hr'
    go_enter Ycvm.func10, Ycvm.ntmps10
    go_wp2_with fail
    go_ret
    exact ⟨rfl, Below.refl _ _⟩
  have d2 : decide ((1024 : Int) < (m : Int)) = false := decide_eq_false (by omega)
  have RF : Hid (Reads .u16 w a n f) := hr
  have RG : Hid (Reads .u16 w a' m f') := hr'
  have HF : Hid (∀ i, f i < 65536) := hf
  have HF' : Hid (∀ i, f' i < 65536) := hf'
  clear hr hf hr' hf'
  obtain ⟨h, hh⟩ : ∃ h : Nat → Nat, ∀ i, h i = ge37 (f i) := ⟨_, fun _ => rfl⟩
  obtain ⟨h', hh'⟩ : ∃ h : Nat → Nat, ∀ i, h i = ge37 (f' i) := ⟨_, fun _ => rfl⟩
  have CG : Hid (∀ i w, Calls Ycvm.prog 24 #[.int .u16 (f i)] w fun e w' => e = .returned (.int .i64 (h i)) ∧ w' = w) := fun i w => by rw [hh]; exact gelem_any (f i) (HF.out i) w
  have CG' : Hid (∀ i w, Calls Ycvm.prog 24 #[.int .u16 (f' i)] w fun e w' => e = .returned (.int .i64 (h' i)) ∧ w' = w) := fun i w => by rw [hh']; exact gelem_any (f' i) (HF'.out i) w
  have HL : Hid (∀ i, h i < 320) := fun i => by rw [hh]; exact ge37_lt _
  have HL' : Hid (∀ i, h' i < 320) := fun i => by rw [hh']; exact ge37_lt _
  have HH : Hid (∀ i, h i = ge37 (f i)) := hh
  have HH' : Hid (∀ i, h' i = ge37 (f' i)) := hh'
  clear hh hh'
  obtain ⟨g, hg⟩ : ∃ g, w.heap.size = g := ⟨_, rfl⟩
  have HG : Hid (w.heap.size = g) := hg
  rw [hg]
  clear hg
  go_enter Ycvm.func10, Ycvm.ntmps10
  go_wp2_with (first | (refine wpList_flags _ rfl 45 rfl 400 info_flags g HG.out ?_))
  intro w1 x1 b1 z1
  have X1 : Hid (Flags 45 w1 g 400 _) := x1
  have B1 : Hid (Below g w w1) := b1
  have Z1 : Hid (w1.heap.size = g + 1) := z1
  clear x1 z1 b1
  go_wp2_with (first | (refine wpList_flags _ rfl 45 rfl 400 info_flags (g + 1) Z1.out ?_))
  intro w2 y2 b2 z2
  have X2 : Hid (Flags 45 w2 g 400 _) := X1.out.below b2 (by omega)
  have Y2 : Hid (Flags 45 w2 (g + 1) 400 _) := y2
  have B2 : Hid (Below g w w2) := B1.out.trans (b2.mono (by omega))
  clear y2 b2 z2 X1 B1 Z1
  go_wp2_with fail
  go_loopw [25] (fun t wr => ∃ k : Nat, k ≤ n ∧ t = .int .i64 k ∧ Flags 45 wr g 400 (fun q => occ h k (q : Int)) ∧ Flags 45 wr (g + 1) 400 (fun _ => false) ∧ Below g w wr) (fun t _ => n - (intOf t).toNat)
  case atStart => exact ⟨0, by omega, rfl, X2.out, Y2.out, B2.out⟩
  case round =>
    clear X2 Y2 B2
    obtain ⟨k, hk, rfl, x1, y1, hb⟩ := hrel
    by_cases hlt : k < n
    · obtain ⟨b, off, rfl, hc⟩ := RF.out k hlt
      have hbg : b < g := by rw [← HG.out]; exact World.block_lt_of_cell? w _ hc
      have c0 : wr.cell? ⟨b, off + k, none⟩ = some (.int .u16 (f k)) := (hb.cell (p := ⟨b, off + k, none⟩) hbg).trans hc
      have hyl := HL.out k
      have CK : Hid (∀ w, _) := CG.out k
      have c2 := x1.cell (h k) (by omega)
      have z2 := x1.frozen (h k)
      have HO : Hid (∀ j : Nat, (occ h k (j : Int) || j == h k) = occ h (k + 1) (j : Int)) := occ_flag h k
      have R1 : Hid (Flags _ _ _ _ _) := (x1.set (h k)).congr fun i _ => HO.out i
      have R2 : Hid (Flags _ _ _ _ _) := y1.other (a := ⟨g, h k, none⟩) (by show g + 1 ≠ g; omega) (.bool true)
      have R3 : Hid (Below _ _ _) := hb.setCell (p := ⟨g, h k, none⟩) (Nat.le_refl _) (.bool true)
      clear x1 y1 hb hc HO
      generalize h k = y at *
      generalize occ h k (y : Int) = ob at *
      go_wp2_with fail
      refine Calls.mono (CK.out _) ?_
      rintro e w4 ⟨rfl, rfl⟩
      go_wp2_with fail
      go_roundw
      case rel => exact ⟨k + 1, by omega, by go_num, R1.out, R2.out, R3.out⟩
      case measure => simp [intOf]; omega
    · obtain rfl : k = n := by omega
      have X3 : Hid (Flags _ _ _ _ _) := x1
      have Y3 : Hid (Flags _ _ _ _ _) := y1
      have B3 : Hid (Below g w wr) := hb
      clear x1 y1 hb
      go_wp2_with fail
      go_loopw [35] (fun t wq => ∃ r : Nat, r ≤ m ∧ t = .int .i64 r ∧ Flags 45 wq g 400 (fun q => occ h k (q : Int)) ∧ Flags 45 wq (g + 1) 400 (fun q => occ h' r (q : Int)) ∧ Below g w wq) (fun t _ => m - (intOf t).toNat)
      case atStart => exact ⟨0, by omega, rfl, X3.out, Y3.out, B3.out⟩
      case round =>
        clear X3 Y3 B3
        obtain ⟨r, hrm, rfl, x1, y1, hb⟩ := hrel
        by_cases hlt : r < m
        · obtain ⟨b, off, rfl, hc⟩ := RG.out r hlt
          have hbg : b < g := by rw [← HG.out]; exact World.block_lt_of_cell? w _ hc
          have c0 : wr.cell? ⟨b, off + r, none⟩ = some (.int .u16 (f' r)) := (hb.cell (p := ⟨b, off + r, none⟩) hbg).trans hc
          have hyl := HL'.out r
          have CK : Hid (∀ w, _) := CG'.out r
          have c2 := y1.cell (h' r) (by omega)
          have z2 := y1.frozen (h' r)
          have HO : Hid (∀ j : Nat, (occ h' r (j : Int) || j == h' r) = occ h' (r + 1) (j : Int)) := occ_flag h' r
          have R1 : Hid (Flags _ _ _ _ _) := (y1.set (h' r)).congr fun i _ => HO.out i
          have R2 : Hid (Flags _ _ _ _ _) := x1.other (a := ⟨g + 1, h' r, none⟩) (by show g ≠ g + 1; omega) (.bool true)
          have R3 : Hid (Below _ _ _) := hb.setCell (p := ⟨g + 1, h' r, none⟩) (Nat.le_succ _) (.bool true)
          clear x1 y1 hb hc HO
          generalize h' r = y at *
          generalize occ h' r (y : Int) = ob at *
          go_wp2_with fail
          refine Calls.mono (CK.out _) ?_
          rintro e w4 ⟨rfl, rfl⟩
          go_wp2_with fail
          go_roundw
          case rel => exact ⟨r + 1, by omega, by go_num, R2.out, R1.out, R3.out⟩
          case measure => simp [intOf]; omega
        · obtain rfl : r = m := by omega
          have X3 : Hid (Flags _ _ _ _ _) := x1
          have Y3 : Hid (Flags _ _ _ _ _) := y1
          have B3 : Hid (Below g w wr) := hb
          have hgs : g + 1 < wr.heap.size := y1.lt
          have R1 : Hid (Reads .u16 wr a k f) := RF.out.below (by rw [HG.out]; exact hb)
          have R2 : Hid (Reads .u16 wr a' r f') := RG.out.below (by rw [HG.out]; exact hb)
          clear x1 y1 hb RF RG CG CG'
          have C1 : Hid _ := gbuild_any a k cap f h wr R1.out HF.out HH.out (by omega)
          go_wp2_with fail
          refine Calls.mono C1.out ?_
          rintro e w4 ⟨p, v, rfl, b4, l4⟩
          have hN := fn_le (fun i => (h i : Int)) k
          have HM : Hid (∀ q, memI (fe (fun i => (h i : Int)) k) q = occ h k q) := memI_fe_nat fun i => Nat.lt_trans (HL.out i) (by omega)
          generalize fn (fun i => (h i : Int)) k = N at *
          generalize fe (fun i => (h i : Int)) k = F at *
          have P4 : Hid (Bts w4 _ _ _ _ _) := b4
          have X4 : Hid (Flags _ _ _ _ _) := X3.out.below l4 (by omega)
          have Y4 : Hid (Flags _ _ _ _ _) := Y3.out.below l4 (by omega)
          have B4 : Hid (Below g w w4) := B3.out.trans (l4.mono (by omega))
          have hs4 : g + 1 < w4.heap.size := Y4.out.lt
          have C2 : Hid _ := gbuild_any a' r cap' f' h' w4 (R2.out.below l4) HF'.out HH'.out (by omega)
          clear b4 l4 X3 Y3 B3 C1 R1 R2
          go_wp2_with fail
          refine Calls.mono C2.out ?_
          rintro e w5 ⟨q, u, rfl, b5, l5⟩
          have hM := fn_le (fun i => (h' i : Int)) r
          have HM' : Hid (∀ q, memI (fe (fun i => (h' i : Int)) r) q = occ h' r q) := memI_fe_nat fun i => Nat.lt_trans (HL'.out i) (by omega)
          generalize fn (fun i => (h' i : Int)) r = M at *
          generalize fe (fun i => (h' i : Int)) r = G at *
          have Q5 : Hid (Bts w5 _ _ _ _ _) := b5
          have P5 : Hid (Bts w5 _ _ _ _ _) := P4.out.below l5 (Nat.le_refl _)
          have X5 : Hid (Flags _ _ _ _ _) := X4.out.below l5 (by omega)
          have Y5 : Hid (Flags _ _ _ _ _) := Y4.out.below l5 (by omega)
          have B5 : Hid (Below g w w5) := B4.out.trans (l5.mono (by omega))
          have hs5 : g + 1 < w5.heap.size := Y5.out.lt
          clear b5 l5 X4 Y4 B4 C2 P4
          go_wp2_with fail
          refine Calls.mono (inter_bts P5.out Q5.out (by omega) (by omega)) ?_
          rintro e w6 ⟨o, t, rfl, b6, l6⟩
          have O6 : Hid (Bts w6 _ _ _ _ _) := b6
          have Q6 : Hid (Bts w6 _ _ _ _ _) := Q5.out.below l6 (Nat.le_refl _)
          have P6 : Hid (Bts w6 _ _ _ _ _) := P5.out.below l6 (Nat.le_refl _)
          have X6 : Hid (Flags _ _ _ _ _) := X5.out.below l6 (by omega)
          have Y6 : Hid (Flags _ _ _ _ _) := Y5.out.below l6 (by omega)
          have B6 : Hid (Below g w w6) := B5.out.trans (l6.mono (by omega))
          have HA : Hid (∀ j, memI (fun i => F i &&& G i) j = (memI F j && memI G j)) := memI_and F G
          clear b6 l6 X5 Y5 B5 P5 Q5
          generalize (fun i => F i &&& G i) = E at *
          generalize tl E (min N M) = L at *
          go_wp2_with fail
          refine Calls.mono (has_eq O6.out (by omega) (memI_neg E (by omega))) ?_
          rintro e w7 ⟨rfl, rfl⟩
          go_wp2_with fail
          go_loopw [14] (fun t wq => ∃ j : Nat, j ≤ 400 ∧ t = .int .i64 j ∧ Still w7 wq) (fun t _ => 400 - (intOf t).toNat)
          case atStart => exact ⟨0, by omega, rfl, Still.refl _⟩
          case round =>
            obtain ⟨j, hj, rfl, hst⟩ := hrel
            have HST : Hid (Still w7 wr) := hst
            clear hst
            by_cases hlt : j < 400
            · have cx : wr.cell? ⟨g, j, none⟩ = some (.bool (occ h k (j : Int))) := (HST.out.cell _).trans (X6.out.cell j hlt)
              have cy : wr.cell? ⟨g + 1, j, none⟩ = some (.bool (occ h' r (j : Int))) := (HST.out.cell _).trans (Y6.out.cell j hlt)
              have M1 : Hid (memI F (j : Int) = occ h k (j : Int)) := HM.out _
              have M2 : Hid (memI G (j : Int) = occ h' r (j : Int)) := HM'.out _
              have M3 : Hid (memI E (j : Int) = (occ h k (j : Int) && occ h' r (j : Int))) := (by rw [HA.out, HM.out, HM'.out] : memI E (j : Int) = (occ h k (j : Int) && occ h' r (j : Int)))
              have b1 : (0 : Int) ≤ (j : Int) := by omega
              have b2 : (j : Int) < (400 : Int) := by omega
              have hj2 : (j : Int) ≤ 9223372036854775807 := by omega
              generalize occ h k (j : Int) = ox at *
              generalize occ h' r (j : Int) = oy at *
              cases ox <;> cases oy
              all_goals
                go_wp2_with fail
                go_quiet ((go_at_call 26; exact Calls.quiet_of_same (has_eq (O6.out.still (HST.out.drewN _)) hj2 M3.out)))
                have S8 : Still wr (wr.drewN nq) := (Still.refl _).drewN _
                have S9 : Hid (Still w7 (wr.drewN nq)) := HST.out.trans S8
                have cx' := (S8.cell ⟨g, j, none⟩).trans cx
                have cy' := (S8.cell ⟨g + 1, j, none⟩).trans cy
                have CB : Hid (∀ w', Still w7 w' → Calls Ycvm.prog 26 #[.pointer (some ⟨p, 0, none⟩), .int .i64 j] w' fun e w'' => e = .returned (.bool _) ∧ w'' = w') := fun w' hs => has_eq (P6.out.still hs) hj2 M1.out
                have CC : Hid (∀ w', Still w7 w' → Calls Ycvm.prog 26 #[.pointer (some ⟨q, 0, none⟩), .int .i64 j] w' fun e w'' => e = .returned (.bool _) ∧ w'' = w') := fun w' hs => has_eq (Q6.out.still hs) hj2 M2.out
                clear S8 HST cx cy M3 M1 M2
                generalize wr.drewN nq = w8 at *
                go_wp2_with fail
                go_quiet ((go_at_call 26; first | with_reducible exact Calls.quiet_of_same (CB.out _ (S9.out.drewN _)) | with_reducible exact Calls.quiet_of_same (CC.out _ (S9.out.drewN _))))
                go_wp2_with fail
                go_roundw
                case rel => exact ⟨j + 1, by omega, by go_num, S9.out.drewN _⟩
                case measure => simp [intOf]; omega
            · obtain rfl : j = 400 := by omega
              go_wp2_with fail
              go_ret
              exact ⟨rfl, B6.out.trans HST.out.below⟩

end Go.Proofs.Ymbrcv.GLaws
