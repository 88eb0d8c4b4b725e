/-
  THE WALK OF LawS930007LWord.
-/
import Derived.Test.YmbrcwEqual
import Derived.Deep.DeepCutAuto
namespace Go.Proofs.Ymbrcw.LLaws
open Go.RowKit Go.Proofs.Ymbrcw
set_option linter.unusedVariables false

theorem xor_eq (x d : Nat) (hx : x < 18446744073709551616) (hd : d < 18446744073709551616) : bits .xor .u64 (x : Int) (d : Int) = ((x ^^^ d : Nat) : Int) := u64_xor_nat x d hx hd
theorem or_one_eq (r : Nat) (hr : r < 18446744073709551616) : bits .or .u64 (r : Int) 1 = ((r ||| 1 : Nat) : Int) := u64_or_nat r 1 hr (by omega)
theorem xor_ne (x d : Nat) (h : d ≠ 0) : x ≠ x ^^^ d := fun e => h (by
  have h2 : x ^^^ (x ^^^ d) = d := by rw [← Nat.xor_assoc, Nat.xor_self, Nat.zero_xor]
  rw [← e, Nat.xor_self] at h2
  exact h2.symm)

set_option maxRecDepth 100000 in
set_option maxHeartbeats 4000000 in
theorem lword (a : Option Addr) (n cap : Nat) (f : Nat → Nat) (pos delta tail : Nat) (w : World) (hr : Reads .u64 w a n f) (hf : Fit64 f) (hn : n ≤ cap) (hm : cap ≤ maxLen)
    (h1 : pos < 18446744073709551616) (h2 : delta < 18446744073709551616) (h3 : tail < 18446744073709551616) :
    Calls Ycwm.prog 14 #[.slice a n cap, .int .u64 pos, .int .u64 delta, .int .u64 tail] w fun e w' => e = .returned (.bool true) ∧ Below w.heap.size w w' := by
  unfold maxLen at hm
  have HR : Hid (Reads .u64 w a n f) := hr
  have HF : Hid (Fit64 f) := hf
  clear hr hf
  by_cases hbig : 1024 < n
  · go_enter Ycwm.func14, Ycwm.ntmps14
    go_wp2_with fail
    go_ret
    exact ⟨rfl, Below.refl _ _⟩
  have hor := or_one_eq tail h3
  obtain ⟨g, hg⟩ : ∃ g, w.heap.size = g := ⟨_, rfl⟩
  have HG : Hid (w.heap.size = g) := hg
  rw [hg]
  clear hg
  go_enter Ycwm.func14, Ycwm.ntmps14
  go_wp2_with (first | (at_make; refine wpList_make _ rfl _ _ 22 rfl 25 .u64 Ycwm.underlying22 info_u64 _ _ _ _ n rfl rfl (by omega) (by omega) (by omega) g HG.out ?_))
  intro w1 o1 b1 _ z1
  have O1 : Hid (Own _ _ _ _ _ _ _) := o1
  have Z1 : Hid (w1.heap.size = g + 1) := z1
  clear o1 z1
  go_wp2_with (first | (at_make; refine wpList_make _ rfl _ _ 22 rfl 25 .u64 Ycwm.underlying22 info_u64 _ _ _ _ (n + 1) rfl rfl (by omega) (by omega) (by omega) (g + 1) Z1.out ?_))
  intro w2 o2 b2 _ z2
  have O2 : Hid (Own _ _ _ _ _ _ _) := o2
  have Z2 : Hid (w2.heap.size = g + 1 + 1) := z2
  clear o2 z2
  go_wp2_with fail
  go_loopw [30] (fun t wr => ∃ k : Nat, k ≤ n ∧ t = .int .i64 k ∧ Own 25 .u64 wr g (.slice (some ⟨g, 0, none⟩) n n) n (upto f k) ∧ Own 25 .u64 wr g (.slice (some ⟨g + 1, 0, none⟩) (n + 1) (n + 1)) (n + 1) (upto f k) ∧ Below g w wr) (fun t _ => n - (intOf t).toNat)
  case atStart =>
    refine ⟨0, by omega, rfl, ?_, ?_, ?_⟩
    · rw [upto_zero]; exact O1.out.below b2 (by rw [Z1.out]; exact Nat.le_refl _)
    · rw [upto_zero]; exact O2.out.mono (by omega)
    · exact b1.trans (b2.mono (by omega))
  case round =>
    clear O1 O2 Z1 Z2 b1 b2
    obtain ⟨k, hk, rfl, o1, o2, hb⟩ := hrel
    by_cases hlt : k < n
    · obtain ⟨b, off, rfl, hc⟩ := HR.out k hlt
      have hbg : b < g := by rw [← HG.out]; exact World.block_lt_of_cell? w _ hc
      have c0 : wr.cell? ⟨b, off + k, none⟩ = some (.int .u64 (f k)) := (hb.cell (p := ⟨b, off + k, none⟩) hbg).trans hc
      have c1 := o1.cell k (by omega)
      have f1 := o1.frozen k
      have c2 := o2.cell k (by omega)
      have f2 := o2.frozen k
      have R1 : Hid (Own _ _ _ _ _ _ _) := (o1.set k (f k)).setOther (p := ⟨g + 1, k, none⟩) (by simp [Value.ownBlock]) (.int .u64 (f k))
      have R2 : Hid (Own _ _ _ _ _ _ _) := (o2.setOther (p := ⟨g, k, none⟩) (by simp [Value.ownBlock]) (.int .u64 (f k))).set k (f k)
      have R3 : Hid (Below _ _ _) := (hb.setCell (p := ⟨g, k, none⟩) (Nat.le_refl _) (.int .u64 (f k))).setCell (p := ⟨g + 1, k, none⟩) (Nat.le_succ _) (.int .u64 (f k))
      clear o1 o2 hb hc
      go_wp2_with fail
      go_roundw
      case rel => exact ⟨k + 1, by omega, by go_num, by rw [← upto_succ]; exact R1.out, by rw [← upto_succ]; exact R2.out, R3.out⟩
      case measure => simp [intOf]; omega
    · obtain rfl : k = n := by omega
      have c2 := o2.cell k (by omega)
      have f2 := o2.frozen k
      have R1 : Hid (Own _ _ _ _ _ _ _) := o1.setOther (p := ⟨g + 1, k, none⟩) (by simp [Value.ownBlock]) (.int .u64 ((tail ||| 1 : Nat) : Int))
      have R2 : Hid (Own _ _ _ _ _ _ _) := o2.set k (tail ||| 1)
      have R3 : Hid (Below _ _ _) := hb.setCell (p := ⟨g + 1, k, none⟩) (Nat.le_succ _) (.int .u64 ((tail ||| 1 : Nat) : Int))
      clear o1 o2 hb
      go_upto_if 50 with fail
      generalize wr.setCell ⟨g + 1, k, none⟩ (.int .u64 ((tail ||| 1 : Nat) : Int)) = w3 at *
      clear c2 f2 hlt
      go_cut [14] (fun s wc => ∃ (sm : Bool) (G : Nat → Nat), s = .bool sm ∧ eqB k f k G = sm ∧ Own 25 .u64 wc g (.slice (some ⟨g, 0, none⟩) k k) k G ∧ Own 25 .u64 wc g (.slice (some ⟨g + 1, 0, none⟩) (k + 1) (k + 1)) (k + 1) (upd (upto f k) k (tail ||| 1)) ∧ Below g w wc)
      case first =>
        rcases Nat.eq_zero_or_pos k with hk0 | hk0
        · subst hk0
          go_wp2_with fail
          go_meet
          case rel => exact ⟨true, upto f 0, rfl, eqB_same rfl (fun i hi => by omega), R1.out, R2.out, R3.out⟩
        · have hpl : pos % k < k := Nat.mod_lt _ hk0
          have c1 := R1.out.cell (pos % k) hpl
          have f1 := R1.out.frozen (pos % k)
          have eu : upto f k (pos % k) = f (pos % k) := by unfold upto; rw [if_pos hpl]
          rw [eu] at c1
          clear eu
          have hx := xor_eq (f (pos % k)) delta (HF.out _) h2
          have S1 : Hid (Own _ _ _ _ _ _ _) := R1.out.set (pos % k) (f (pos % k) ^^^ delta)
          have S2 : Hid (Own _ _ _ _ _ _ _) := R2.out.setOther (p := ⟨g, pos % k, none⟩) (by simp [Value.ownBlock]) (.int .u64 ((f (pos % k) ^^^ delta : Nat) : Int))
          have S3 : Hid (Below _ _ _) := R3.out.setCell (p := ⟨g, pos % k, none⟩) (Nat.le_refl _) (.int .u64 ((f (pos % k) ^^^ delta : Nat) : Int))
          have HE : Hid (eqB k f k (upd (upto f k) (pos % k) (f (pos % k) ^^^ delta)) = ((delta : Int) == 0)) := by
            rcases Nat.eq_zero_or_pos delta with hd | hd
            · subst hd
              refine eqB_same rfl fun i hi => ?_
              unfold upd
              split
              · rename_i e; rw [e, Nat.xor_zero]
              · unfold upto; rw [if_pos hi]
            · rw [eqB_diff hpl (by rw [upd_same]; exact xor_ne _ _ (by omega))]
              exact (beq_eq_false_iff_ne.2 (by omega)).symm
          go_wp2_with fail
          go_meet
          case rel => exact ⟨_, _, rfl, HE.out, S1.out, S2.out, S3.out⟩
      case rest =>
        clear R1 R2 R3
        obtain ⟨sm, G, rfl, hE, o1, o2, hb⟩ := hcut
        have HE : Hid (_ = sm) := hE
        have HE2 : Hid (eqB k G k f = sm) := (eqB_symm _ _ _ _).trans hE
        have HD : Hid (eqB k f (k + 1) (upd (upto f k) k (tail ||| 1)) = false) := eqB_len (by omega)
        have HD2 : Hid (eqB (k + 1) (upd (upto f k) k (tail ||| 1)) k f = false) := eqB_len (by omega)
        clear hE
        have hgz : g ≤ wc.heap.size := by have := hb.size; rw [HG.out] at this; exact this
        have R0 : Hid (Reads .u64 wc a k f) := HR.out.below (by rw [HG.out]; exact hb)
        have R1 : Hid (Own _ _ _ _ _ _ _) := o1
        have R2 : Hid (Own _ _ _ _ _ _ _) := o2
        have R3 : Hid (Below _ _ _) := hb
        clear o1 o2 hb
        go_wp2_with fail
        have p1 : (((wc.alloc (.cells #[.slice a k cap] 37)).alloc (.cells #[.slice (some ⟨g, 0, none⟩) k k] 37)).alloc (.cells #[.slice (some ⟨g + 1, 0, none⟩) (k + 1) (k + 1)] 37)).cell? ⟨wc.heap.size, 0, none⟩ = some (.slice a k cap) := by simp [go_sem]
        have p2 : (((wc.alloc (.cells #[.slice a k cap] 37)).alloc (.cells #[.slice (some ⟨g, 0, none⟩) k k] 37)).alloc (.cells #[.slice (some ⟨g + 1, 0, none⟩) (k + 1) (k + 1)] 37)).cell? ⟨wc.heap.size + 1, 0, none⟩ = some (.slice (some ⟨g, 0, none⟩) k k) := by simp [go_sem]
        have p3 : (((wc.alloc (.cells #[.slice a k cap] 37)).alloc (.cells #[.slice (some ⟨g, 0, none⟩) k k] 37)).alloc (.cells #[.slice (some ⟨g + 1, 0, none⟩) (k + 1) (k + 1)] 37)).cell? ⟨wc.heap.size + 1 + 1, 0, none⟩ = some (.slice (some ⟨g + 1, 0, none⟩) (k + 1) (k + 1)) := by simp [go_sem]
        have bW : Below wc.heap.size wc (((wc.alloc (.cells #[.slice a k cap] 37)).alloc (.cells #[.slice (some ⟨g, 0, none⟩) k k] 37)).alloc (.cells #[.slice (some ⟨g + 1, 0, none⟩) (k + 1) (k + 1)] 37)) :=
          (((Below.refl _ _).alloc (Nat.le_refl _) _).alloc (by simp) _).alloc (by simp; omega) _
        generalize ((wc.alloc (.cells #[.slice a k cap] 37)).alloc (.cells #[.slice (some ⟨g, 0, none⟩) k k] 37)).alloc (.cells #[.slice (some ⟨g + 1, 0, none⟩) (k + 1) (k + 1)] 37) = W at *
        have rW0 := R0.out.below bW
        have rW1 := (R1.out.below bW (Nat.le_refl _)).reads
        have rW2 := (R2.out.below bW (Nat.le_refl _)).reads
        have C1 : Hid (∀ w, _ → _) := equal_still p1 p2 rW0 rW1 (by unfold maxLen; omega) HE.out
        have C2 : Hid (∀ w, _ → _) := equal_still p2 p1 rW1 rW0 (by unfold maxLen; omega) HE2.out
        have C3 : Hid (∀ w, _ → _) := equal_still p1 p3 rW0 rW2 (by unfold maxLen; omega) HD.out
        have C4 : Hid (∀ w, _ → _) := equal_still p3 p1 rW2 rW0 (by unfold maxLen; omega) HD2.out
        clear p1 p2 p3 rW0 rW1 rW2
        have hbW : Below g w W := R3.out.trans (bW.mono hgz)
        refine Calls.mono (C1.out _ (Still.refl _)) ?_
        rintro e w5 ⟨rfl, s5⟩
        go_wp2_with fail
        refine Calls.mono (C2.out _ s5) ?_
        rintro e w6 ⟨rfl, s6⟩
        go_wp2_with fail
        refine Calls.mono (C3.out _ s6) ?_
        rintro e w7 ⟨rfl, s7⟩
        go_wp2_with fail
        refine Calls.mono (C4.out _ s7) ?_
        rintro e w8 ⟨rfl, s8⟩
        go_wp2_with fail
        go_ret
        exact ⟨rfl, hbW.trans s8.below⟩
end Go.Proofs.Ymbrcw.LLaws
