/-
  THE WALK OF LawS930007KDistinct.
-/
import Derived.Test.YmbrcwCount
import Derived.Test.YmbrcwFrom
import Derived.Test.YmbrcwFlag
namespace Go.Proofs.Ymbrcw.KLaws
open Go.RowKit Go.Proofs.Ymbrcw Go.Proofs.Ymbrcw.Pop
set_option linter.unusedVariables false

theorem info_flags : (Ycwm.prog.info? 45).map (fun i => i.zero) = some (some (.agg (Array.replicate 1024 (.bool false)))) := by kernel_rfl

/-- How many distinct ones stand among the first k. -/
def dc (h : Nat → Nat) : Nat → Nat
  | 0 => 0
  | k + 1 => dc h k + (!occ h k (h k : Int)).toNat
theorem dc_le (h : Nat → Nat) (k : Nat) : dc h k ≤ k := by
  induction k with
  | zero => exact Nat.le_refl _
  | succ k ih =>
    have : (!occ h k (h k : Int)).toNat ≤ 1 := by cases (!occ h k (h k : Int)) <;> simp
    simp only [dc]
    omega

theorem blw_fe {h : Nat → Nat} (hh : ∀ i, h i < 1048576) (k : Nat) : blw (fe (fun j => (h j : Int)) k) 1048576 = dc h k := by
  induction k with
  | zero =>
    have : ∀ q, blw (fun _ => 0) q = 0 := fun q => by
      induction q with
      | zero => rfl
      | succ q ih => rw [blw, ih]; unfold mem; simp
    exact this _
  | succ k ih =>
    have e1 : fe (fun j => (h j : Int)) (k + 1) = setf (fe (fun j => (h j : Int)) k) (h k) := by
      show setI _ (h k : Int) = _
      unfold setI
      rw [if_pos (inR_nat (hh k)), Int.toNat_natCast]
    have e2 : mem (fe (fun j => (h j : Int)) k) (h k) = occ h k (h k : Int) := by
      rw [← memI_nat, memI_fe_nat hh]
    rw [e1, blw_set, e2, decide_eq_true (hh k), Bool.true_and, ih]
    rfl

theorem cnt_fe {h : Nat → Nat} (hh : ∀ i, h i < 1048576) (k n : Nat) (hz : ∀ i, n ≤ i → fe (fun j => (h j : Int)) k i = 0) (hn : n ≤ 16384) : cnt (fe (fun j => (h j : Int)) k) n = dc h k := by
  rw [cnt_all hz (by omega : 64 * n ≤ 1048576), blw_fe hh]

theorem occ_flag (h : Nat → Nat) (k j : Nat) : (occ h k (j : Int) || j == h k) = occ h (k + 1) (j : Int) := by
  rw [occ_succ]
  congr 1
  rw [Bool.eq_iff_iff]
  simp
  omega

set_option maxRecDepth 100000 in
set_option maxHeartbeats 1000000 in
theorem kdist (a : Option Addr) (n cap : Nat) (x : Nat → Int) (w : World) (hr : ReadsI w a n x) (hn : n ≤ cap) (hm : cap ≤ maxLen) :
    Calls Ycwm.prog 10 #[.slice a n cap] w fun e w' => e = .returned (.bool true) ∧ Below w.heap.size w w' := by
  unfold maxLen at hm
  by_cases hbig : 1024 < n
  · go_enter Ycwm.func10, Ycwm.ntmps10
    go_wp2_with fail
    go_ret
    exact ⟨rfl, Below.refl _ _⟩
  have hb0 : decide ((1024 : Int) < (n : Int)) = false := decide_eq_false (by omega)
  have HR : Hid (ReadsI w a n x) := hr
  clear hr
  obtain ⟨u, hu⟩ : ∃ u : Nat → Nat, ∀ i, IntKind.u64.wrap (x i) = (u i : Int) := ⟨fun i => (x i % 18446744073709551616).toNat, fun i => by rw [IntKind.wrap_u64]; show _ = (((x i % 18446744073709551616).toNat : Nat) : Int); omega⟩
  have HU : Hid (∀ i, IntKind.u64.wrap (x i) = (u i : Int)) := hu
  clear hu
  obtain ⟨h, hh⟩ : ∃ h : Nat → Nat, h = fun i => u i % 1024 := ⟨_, rfl⟩
  have HH : Hid (∀ i, (u i : Int) % 1024 = (h i : Int)) := fun i => by rw [hh]; simp
  have HL : Hid (∀ i, h i < 1024) := fun i => by rw [hh]; show u i % 1024 < 1024; omega
  clear hh
  obtain ⟨g, hg⟩ : ∃ g, w.heap.size = g := ⟨_, rfl⟩
  have HG : Hid (w.heap.size = g) := hg
  rw [hg]
  clear hg
  go_enter Ycwm.func10, Ycwm.ntmps10
  go_wp2_with (first | (at_make; refine wpList_make _ rfl _ _ 31 rfl 3 .i64 Ycwm.underlying31 info_int _ _ _ _ n rfl rfl (by omega) (by omega) (by omega) g HG.out ?_))
  intro w1 o1 b1 _ z1
  have O1 : Hid (Own _ _ _ _ _ _ _) := o1
  have B1 : Hid (Below g w w1) := b1
  have Z1 : Hid (w1.heap.size = g + 1) := z1
  clear o1 z1 b1
  go_wp2_with (first | (refine wpList_flags _ rfl 45 rfl 1024 info_flags (g + 1) Z1.out ?_))
  intro w2 f2 b2 z2
  have F2 : Hid (Flags 45 w2 (g + 1) 1024 _) := f2
  have O2 : Hid (Own _ _ _ _ _ _ _) := O1.out.below b2 (by rw [Z1.out]; omega)
  have B2 : Hid (Below g w w2) := B1.out.trans (b2.mono (by omega))
  clear f2 b2 z2 O1 B1 Z1
  go_wp2_with fail
  go_loopw [5, 6] (fun c t wr => ∃ k : Nat, k ≤ n ∧ t = .int .i64 k ∧ c = .int .i64 (dc h k) ∧ Own 3 .i64 wr g (.slice (some ⟨g, 0, none⟩) n n) n (upto h k) ∧ Flags 45 wr (g + 1) 1024 (fun q => occ h k (q : Int)) ∧ Below g w wr) (fun _ t _ => n - (intOf t).toNat)
  case atStart => exact ⟨0, by omega, rfl, rfl, by rw [upto_zero]; exact O2.out, F2.out, B2.out⟩
  case round =>
    clear F2 O2 B2
    obtain ⟨k, hk, rfl, rfl, o1, f1, hb⟩ := hrel
    have hdl := dc_le h k
    by_cases hlt : k < n
    · obtain ⟨b, off, rfl, hc⟩ := HR.out k hlt
      have hbg : b < g := by rw [← HG.out]; exact World.block_lt_of_cell? w _ hc
      have c0 : wr.cell? ⟨b, off + k, none⟩ = some (.int .i64 (x k)) := (hb.cell (p := ⟨b, off + k, none⟩) hbg).trans hc
      have c1 := o1.cell k (by omega)
      have z1 := o1.frozen k
      have hx := HU.out k
      have hy := HH.out k
      have hyl := HL.out k
      have R1 : Hid (Own _ _ _ _ _ _ _) := o1.set k (h k)
      have R3 : Hid (Below _ _ _) := hb.setCell (p := ⟨g, k, none⟩) (Nat.le_refl _) (.int .i64 (h k))
      have HU1 : Hid (upd (upto h k) k (h k) = upto h (k + 1)) := upto_succ h k
      have R2 : Hid (Flags _ _ _ _ _) := f1.other (a := ⟨g, k, none⟩) (by show g + 1 ≠ g; omega) (.int .i64 (h k))
      have c2 := R2.out.cell (h k) hyl
      have z2 := R2.out.frozen (h k)
      have c2' := f1.cell (h k) hyl
      have z2' := f1.frozen (h k)
      have HD : Kept (dc h (k + 1) = dc h k + (!occ h k (h k : Int)).toNat) := Kept.mk rfl
      have HO : Hid (∀ j : Nat, (occ h k (j : Int) || j == h k) = occ h (k + 1) (j : Int)) := occ_flag h k
      clear o1 hb hc f1
      generalize u k = uk at *
      generalize h k = y at *
      generalize dc h k = c at *
      cases hoc : occ h k (y : Int)
      · rw [hoc] at HD c2 c2'
        clear hoc
        go_wp2_with fail
        go_roundw
        case rel => exact ⟨k + 1, by omega, by go_num, by rw [HD.out]; go_num, by rw [← HU1.out]; exact R1.out.setOther (p := ⟨g + 1, y, none⟩) (by simp [Value.ownBlock]) _, (R2.out.set y).congr fun i _ => HO.out i, R3.out.setCell (p := ⟨g + 1, y, none⟩) (Nat.le_succ _) _⟩
        case measure => simp [intOf]; omega
      · have HOC : Hid (occ h k (y : Int) = true) := hoc
        rw [hoc] at HD c2 c2'
        clear hoc
        go_wp2_with fail
        go_roundw
        case rel => exact ⟨k + 1, by omega, by go_num, by rw [HD.out]; go_num, by rw [← HU1.out]; exact R1.out, R2.out.congr fun i _ => by
          rw [← HO.out i]
          by_cases e : i = y
          · rw [e, HOC.out]; rfl
          · rw [beq_eq_false_iff_ne.2 e, Bool.or_false], R3.out⟩
        case measure => simp [intOf]; omega
    · obtain rfl : k = n := by omega
      have R1 : Hid (Own _ _ _ _ _ _ h) := o1.congr fun i hi => by unfold upto; rw [if_pos hi]
      have R3 : Hid (Below g w wr) := hb
      have hgz : g ≤ wr.heap.size := by rw [← HG.out]; exact hb.size
      clear o1 hb f1
      have HM : Hid (∀ i, h i < 1048576) := fun i => Nat.lt_trans (HL.out i) (by omega)
      have CF : Hid _ := from_ok (cap := k) R1.out.reads.toI (by unfold maxLen; omega) (fun i _ => inR_nat (HM.out i))
      go_wp2_with fail
      refine Calls.mono CF.out ?_
      rintro e w5 ⟨p, v, rfl, b5, bel5⟩
      have B5 : Hid (Bts _ _ _ _ _ _) := b5
      have W5 : Hid (Below g w w5) := R3.out.trans (bel5.mono hgz)
      have hfl := fn_le (fun j => (h j : Int)) k
      have HC : Kept (cnt (fe (fun j => (h j : Int)) k) (fn (fun j => (h j : Int)) k) = dc h k) := Kept.mk (cnt_fe HM.out _ _ b5.zero hfl)
      have CC : Hid _ := count_bts B5.out (by omega) HC.out
      clear b5 bel5 HC
      generalize dc h k = c at *
      go_wp2_with fail
      refine Calls.mono CC.out ?_
      rintro e w6 ⟨rfl, rfl⟩
      go_wp2_with fail
      go_ret
      exact ⟨by simp, W5.out⟩

end Go.Proofs.Ymbrcw.KLaws
