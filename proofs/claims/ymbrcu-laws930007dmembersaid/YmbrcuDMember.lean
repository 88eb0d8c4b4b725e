/-
  THE WALK OF LawS930007DMember.
-/
import Derived.Test.YmbrcuFrom
namespace Go.Proofs.Ymbrcu.DLaws
open Go.RowKit Go.Proofs.Ymbrcu
set_option linter.unusedVariables false

set_option maxRecDepth 100000 in
set_option maxHeartbeats 4000000 in
theorem dmember (a : Option Addr) (n cap : Nat) (f : Nat → Nat) (q : Int) (w : World) (hr : Reads .u32 w a n f) (hf : ∀ i, f i < 4294967296) (hn : n ≤ cap) (hm : cap ≤ maxLen)
    (h1 : -9223372036854775808 ≤ q) (h2 : q ≤ 9223372036854775807) :
    Calls Ycum.prog 13 #[.slice a n cap, .int .i64 q] w fun e w' => e = .returned (.bool true) ∧ Below w.heap.size w w' := by
  unfold maxLen at hm
  by_cases hbig : 1024 < n
  · go_enter Ycum.func13, Ycum.ntmps13
    go_wp2_with fail
    go_ret
    exact ⟨rfl, Below.refl _ _⟩
  have HR : Hid (Reads .u32 w a n f) := hr
  have HF : Hid (∀ i, f i < 4294967296) := hf
  clear hr hf
  obtain ⟨h, hh⟩ : ∃ h : Nat → Nat, h = fun i => f i % 1048576 := ⟨_, rfl⟩
  have HH : Hid (∀ i, h i = f i % 1048576) := fun i => by rw [hh]
  have HL : Hid (∀ i, h i < 1048576) := fun i => by rw [HH.out]; exact Nat.mod_lt _ (by omega)
  clear hh
  obtain ⟨g, hg⟩ : ∃ g, w.heap.size = g := ⟨_, rfl⟩
  have HG : Hid (w.heap.size = g) := hg
  rw [hg]
  clear hg
  go_enter Ycum.func13, Ycum.ntmps13
  go_wp2_with (first | (at_make; refine wpList_make _ rfl _ _ 34 rfl 3 .i64 Ycum.underlying34 info_int _ _ _ _ n rfl rfl (by omega) (by omega) (by omega) g HG.out ?_))
  intro w1 o1 b1 _ z1
  have O1 : Hid (Own _ _ _ _ _ _ _) := o1
  clear o1 z1
  go_wp2_with fail
  go_loopw [6, 21] (fun l t wr => ∃ k : Nat, k ≤ n ∧ l = .bool (occ h k q) ∧ t = .int .i64 k ∧ Own 3 .i64 wr g (.slice (some ⟨g, 0, none⟩) n n) n (upto h k) ∧ Below g w wr) (fun _ t _ => n - (intOf t).toNat)
  case atStart => exact ⟨0, by omega, rfl, rfl, by rw [upto_zero]; exact O1.out, b1⟩
  case round =>
    clear O1 b1
    obtain ⟨k, hk, rfl, rfl, o1, hb⟩ := hrel
    by_cases hlt : k < n
    · obtain ⟨b, off, rfl, hc⟩ := HR.out k hlt
      have hbg : b < g := by rw [← HG.out]; exact World.block_lt_of_cell? w _ hc
      have c0 : wr.cell? ⟨b, off + k, none⟩ = some (.int .u32 (f k)) := (hb.cell (p := ⟨b, off + k, none⟩) hbg).trans hc
      have c1 := o1.cell k (by omega)
      have f1 := o1.frozen k
      have R1 : Hid (Own _ _ _ _ _ _ _) := o1.set k (h k)
      have R3 : Hid (Below _ _ _) := hb.setCell (p := ⟨g, k, none⟩) (Nat.le_refl _) (.int .i64 (h k))
      have HS : Hid (occ h (k + 1) q = (occ h k q || decide ((h k : Int) = q))) := occ_succ h k q
      have HU : Hid (upd (upto h k) k (h k) = upto h (k + 1)) := upto_succ h k
      have hfk := HF.out k
      have he := HH.out k
      rw [he] at R1 R3 HS HU
      clear o1 hb hc he
      by_cases hq : ((f k % 1048576 : Nat) : Int) = q
      · have hq' : ((f k : Int) % 1048576 == q) = true := beq_iff_eq.2 (by omega)
        rw [decide_eq_true hq, Bool.or_true] at HS
        clear hq
        go_wp2_with fail
        go_roundw
        case rel => exact ⟨k + 1, by omega, by rw [HS.out], by go_num, by rw [← HU.out]; exact R1.out, R3.out⟩
        case measure => simp [intOf]; omega
      · have hq' : ((f k : Int) % 1048576 == q) = false := beq_eq_false_iff_ne.2 (by omega)
        rw [decide_eq_false hq, Bool.or_false] at HS
        clear hq
        go_wp2_with fail
        go_roundw
        case rel => exact ⟨k + 1, by omega, by rw [HS.out], by go_num, by rw [← HU.out]; exact R1.out, R3.out⟩
        case measure => simp [intOf]; omega
    · obtain rfl : k = n := by omega
      have R1 : Hid (Own _ _ _ _ _ _ h) := o1.congr fun i hi => by unfold upto; rw [if_pos hi]
      have R3 : Hid (Below g w wr) := hb
      have hgz : g ≤ wr.heap.size := by rw [← HG.out]; exact hb.size
      clear o1 hb
      have CF : Hid _ := from_ok (cap := k) R1.out.reads.toI (by unfold maxLen; omega) (fun i _ => inR_nat (HL.out i))
      cases ho : occ h k q
      all_goals
        have HO : Hid (memI (fe (fun i => (h i : Int)) k) q = _) := (memI_fe_nat HL.out q).trans ho
        clear ho
        go_wp2_with fail
        refine Calls.mono CF.out ?_
        rintro e w5 ⟨p, v, rfl, b5, bel5⟩
        have B5 : Hid (Bts _ _ _ _ _ _) := b5
        have W5 : Hid (Below g w w5) := R3.out.trans (bel5.mono hgz)
        have R5 : Hid (ReadsI w5 (some ⟨g, 0, none⟩) k fun i => (h i : Int)) := R1.out.reads.toI.below bel5
        clear b5 bel5
        go_wp2_with fail
        refine Calls.mono (has_eq B5.out h2 HO.out) ?_
        rintro e w6 ⟨rfl, rfl⟩
        go_wp2_with fail
        go_loop [55] (fun t => ∃ j : Nat, j ≤ k ∧ t = .int .i64 j) (fun t => k - (intOf t).toNat)
        case atStart => exact ⟨0, by omega, rfl⟩
        case round =>
          obtain ⟨j, hj, rfl⟩ := hrel
          by_cases hjk : j < k
          · obtain ⟨b', off', e', hc⟩ := R5.out j hjk
            cases e'
            have hc' : w6.cell? ⟨g, j, none⟩ = some (.int .i64 (h j : Int)) := by rw [Nat.zero_add] at hc; exact hc
            have hb := HL.out j
            have HM : Hid (memI (fe (fun i => (h i : Int)) k) (h j : Int) = true) := (memI_fe_nat HL.out _).trans (occ_iff.2 ⟨j, hjk, rfl⟩)
            clear hc
            go_wp2_with fail
            refine Calls.mono (has_eq B5.out (by omega) HM.out) ?_
            rintro e w7 ⟨rfl, rfl⟩
            go_wp2_with fail
            go_round
            case rel => exact ⟨j + 1, by omega, by go_num⟩
            case measure => simp [intOf]; omega
          · obtain rfl : j = k := by omega
            go_wp2_with fail
            go_ret
            exact ⟨rfl, W5.out⟩
end Go.Proofs.Ymbrcu.DLaws
