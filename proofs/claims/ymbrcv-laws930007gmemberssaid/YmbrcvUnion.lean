/-
  THE WALK OF (*Bits).Union.
-/
import Derived.Test.YmbrcvCopyLaw
import Derived.Test.YmbrcvEqual
import Derived.Deep.DeepCutAuto
namespace Go.Proofs.Ymbrcv
open Go.RowKit
set_option linter.unusedVariables false

/-- The first k places joined with s, the rest as l has it. -/
def mix (l s : Nat → Nat) (k : Nat) : Nat → Nat := fun i => if i < k then l i ||| s i else l i
theorem mix_zero (l s : Nat → Nat) : mix l s 0 = l := by funext i; simp [mix]
theorem mix_at (l s : Nat → Nat) (k : Nat) : mix l s k k = l k := by simp [mix]
theorem mix_succ (l s : Nat → Nat) (k : Nat) : upd (mix l s k) k (l k ||| s k) = mix l s (k + 1) := by
  funext i
  unfold upd mix
  by_cases h : i = k
  · subst h; simp
  · rw [if_neg h]
    by_cases h2 : i < k
    · rw [if_pos h2, if_pos (by omega)]
    · rw [if_neg h2, if_neg (by omega)]
theorem mix_all (l s : Nat → Nat) (k : Nat) (hz : ∀ i, k ≤ i → s i = 0) (i : Nat) : mix l s k i = l i ||| s i := by
  unfold mix
  split
  · rfl
  · rw [hz i (by omega), Nat.or_zero]

theorem or_fit {f g : Nat → Nat} (hf : Fit64 f) (hg : Fit64 g) : Fit64 fun i => f i ||| g i := fun i => by
  have := Nat.or_lt_two_pow (n := 64) (x := f i) (y := g i) (by have := hf i; omega) (by have := hg i; omega)
  simpa using this

set_option maxRecDepth 100000 in
set_option maxHeartbeats 2000000 in
theorem union_any (p q : Nat) (a : Option Addr) (n cap : Nat) (f : Nat → Nat) (a' : Option Addr) (m cap' : Nat) (g : Nat → Nat) (w : World)
    (hp : w.cell? ⟨p, 0, none⟩ = some (.slice a n cap)) (hq : w.cell? ⟨q, 0, none⟩ = some (.slice a' m cap')) (hf : Reads .u64 w a n f) (hg : Reads .u64 w a' m g) (zf : ∀ i, n ≤ i → f i = 0) (zg : ∀ i, m ≤ i → g i = 0) (ff : Fit64 f) (fg : Fit64 g) (hn : n ≤ 1048576) (hm : m ≤ 1048576) :
    Calls Ycvm.prog 28 #[.pointer (some ⟨p, 0, none⟩), .pointer (some ⟨q, 0, none⟩)] w fun e w' => ∃ r v, e = .returned (.pointer (some ⟨r, 0, none⟩)) ∧ Bts w' w.heap.size r v (max n m) (fun i => f i ||| g i) ∧ Below w.heap.size w w' := by
  have RF : Hid (Reads .u64 w a n f) := hf
  have RG : Hid (Reads .u64 w a' m g) := hg
  have ZF : Hid (∀ i, n ≤ i → f i = 0) := zf
  have ZG : Hid (∀ i, m ≤ i → g i = 0) := zg
  have FF : Hid (Fit64 f) := ff
  have FG : Hid (Fit64 g) := fg
  have HFB : Hid (Fit64 fun i => f i ||| g i) := or_fit ff fg
  clear hf hg zf zg ff fg
  obtain ⟨x, hx⟩ : ∃ x, w.heap.size = x := ⟨_, rfl⟩
  have HX : Kept (w.heap.size = x) := Kept.mk hx
  rw [hx]
  clear hx
  by_cases hnm : n < m
  · have HM : Kept (m = max n m) := Kept.mk (by omega)
    have HZB : Hid (∀ i, m ≤ i → f i ||| g i = 0) := fun i hi => by rw [ZF.out i (by omega), ZG.out i hi]; rfl
    have d1 : decide ((n : Int) < (m : Int)) = true := decide_eq_true (by omega)
    go_enter Ycvm.func28, Ycvm.ntmps28
    go_wp2_with fail
    go_quiet (fail)
    have HG : Kept ((w.drewN nq).heap.size = x) := Kept.mk HX.out
    go_wp2_with (first | (at_make; refine wpList_make _ rfl _ _ 26 rfl 33 .u64 Ycvm.underlying26 info_u64 _ _ _ _ m rfl rfl (by omega) (by omega) (by omega) x HG.out ?_))
    intro w1 o1 b1 _ z1
    have O1 : Hid (Own _ _ _ _ _ _ _) := o1
    have B1 : Hid (Below x w w1) := (Still.below ⟨nq, rfl⟩).trans b1
    clear o1 b1 z1
    go_upto_region 5 with fail
    iterate 7 go_step
    refine wpList_copy_full rfl _ _ 26 rfl 33 .u64 Ycvm.underlying26 size_u64 x m _ _ rfl rfl x (fun _ => 0) g O1.out (RG.out.below (by rw [HX.out]; exact B1.out)) ?_
    intro w2 o2 b2
    have O2 : Hid (Own _ _ _ _ _ _ _) := o2
    have B2 : Hid (Below x w w2) := B1.out.trans b2
    clear o2 b2 O1 B1
    go_wp2_with fail
    go_loopw [33] (fun t wr => ∃ k : Nat, k ≤ n ∧ t = .int .i64 k ∧ Own 33 .u64 wr x (.slice (some ⟨x, 0, none⟩) m m) m (mix g f k) ∧ Below x w wr) (fun t _ => n - (intOf t).toNat)
    case atStart => exact ⟨0, by omega, rfl, by rw [mix_zero]; exact O2.out, B2.out⟩
    case round =>
      clear O2 B2
      obtain ⟨k, hk, rfl, o3, b3⟩ := hrel
      by_cases hlt : k < n
      · obtain ⟨b, off, rfl, hc⟩ := RF.out k hlt
        have hbx : b < x := by rw [← HX.out]; exact World.block_lt_of_cell? w _ hc
        have c0 : wr.cell? ⟨b, off + k, none⟩ = some (.int .u64 (f k)) := (b3.cell (p := ⟨b, off + k, none⟩) hbx).trans hc
        have c1 := o3.cell k (by omega)
        rw [mix_at] at c1
        have f1 := o3.frozen k
        have hor := u64_or_nat (g k) (f k) (FG.out k) (FF.out k)
        have R1 : Hid (Own _ _ _ _ _ _ _) := o3.set k (g k ||| f k)
        have R3 : Hid (Below x w _) := b3.setCell (p := ⟨x, k, none⟩) (Nat.le_refl _) (.int .u64 ((g k ||| f k : Nat) : Int))
        have HU : Kept (upd (mix g f k) k (g k ||| f k) = mix g f (k + 1)) := Kept.mk (mix_succ g f k)
        clear o3 b3 hc
        generalize g k ||| f k = y at *
        go_wp2_with fail
        go_roundw
        case rel => exact ⟨k + 1, by omega, by go_num, by rw [← HU.out]; exact R1.out, R3.out⟩
        case measure => simp [intOf]; omega
      · have hkm : k = n := by omega
        subst hkm
        have R1 : Hid (Own _ _ _ _ _ _ fun i => f i ||| g i) := o3.congr fun i hi => by rw [mix_all g f k ZF.out]; rw [Nat.or_comm]
        have R3 : Hid (Below x w wr) := b3
        have hxz : x ≤ wr.heap.size := by rw [← HX.out]; exact b3.size
        clear o3 b3 hlt
        go_wp2_with fail
        go_ret
        exact ⟨_, _, rfl, (by rw [← HM.out]; exact bts_box R1.out hxz HZB.out HFB.out), R3.out.alloc hxz _⟩
  · have HM : Kept (n = max n m) := Kept.mk (by omega)
    have HZB : Hid (∀ i, n ≤ i → f i ||| g i = 0) := fun i hi => by rw [ZF.out i hi, ZG.out i (by omega)]; rfl
    have d1 : decide ((n : Int) < (m : Int)) = false := decide_eq_false (by omega)
    go_enter Ycvm.func28, Ycvm.ntmps28
    go_wp2_with fail
    go_quiet (fail)
    have HG : Kept ((w.drewN nq).heap.size = x) := Kept.mk HX.out
    go_wp2_with (first | (at_make; refine wpList_make _ rfl _ _ 26 rfl 33 .u64 Ycvm.underlying26 info_u64 _ _ _ _ n rfl rfl (by omega) (by omega) (by omega) x HG.out ?_))
    intro w1 o1 b1 _ z1
    have O1 : Hid (Own _ _ _ _ _ _ _) := o1
    have B1 : Hid (Below x w w1) := (Still.below ⟨nq, rfl⟩).trans b1
    clear o1 b1 z1
    go_upto_region 5 with fail
    iterate 7 go_step
    refine wpList_copy_full rfl _ _ 26 rfl 33 .u64 Ycvm.underlying26 size_u64 x n _ _ rfl rfl x (fun _ => 0) f O1.out (RF.out.below (by rw [HX.out]; exact B1.out)) ?_
    intro w2 o2 b2
    have O2 : Hid (Own _ _ _ _ _ _ _) := o2
    have B2 : Hid (Below x w w2) := B1.out.trans b2
    clear o2 b2 O1 B1
    go_wp2_with fail
    go_loopw [33] (fun t wr => ∃ k : Nat, k ≤ m ∧ t = .int .i64 k ∧ Own 33 .u64 wr x (.slice (some ⟨x, 0, none⟩) n n) n (mix f g k) ∧ Below x w wr) (fun t _ => m - (intOf t).toNat)
    case atStart => exact ⟨0, by omega, rfl, by rw [mix_zero]; exact O2.out, B2.out⟩
    case round =>
      clear O2 B2
      obtain ⟨k, hk, rfl, o3, b3⟩ := hrel
      by_cases hlt : k < m
      · obtain ⟨b, off, rfl, hc⟩ := RG.out k hlt
        have hbx : b < x := by rw [← HX.out]; exact World.block_lt_of_cell? w _ hc
        have c0 : wr.cell? ⟨b, off + k, none⟩ = some (.int .u64 (g k)) := (b3.cell (p := ⟨b, off + k, none⟩) hbx).trans hc
        have c1 := o3.cell k (by omega)
        rw [mix_at] at c1
        have f1 := o3.frozen k
        have hor := u64_or_nat (f k) (g k) (FF.out k) (FG.out k)
        have R1 : Hid (Own _ _ _ _ _ _ _) := o3.set k (f k ||| g k)
        have R3 : Hid (Below x w _) := b3.setCell (p := ⟨x, k, none⟩) (Nat.le_refl _) (.int .u64 ((f k ||| g k : Nat) : Int))
        have HU : Kept (upd (mix f g k) k (f k ||| g k) = mix f g (k + 1)) := Kept.mk (mix_succ f g k)
        clear o3 b3 hc
        generalize f k ||| g k = y at *
        go_wp2_with fail
        go_roundw
        case rel => exact ⟨k + 1, by omega, by go_num, by rw [← HU.out]; exact R1.out, R3.out⟩
        case measure => simp [intOf]; omega
      · have hkm : k = m := by omega
        subst hkm
        have R1 : Hid (Own _ _ _ _ _ _ fun i => f i ||| g i) := o3.congr fun i hi => by rw [mix_all f g k ZG.out]; skip
        have R3 : Hid (Below x w wr) := b3
        have hxz : x ≤ wr.heap.size := by rw [← HX.out]; exact b3.size
        clear o3 b3 hlt
        go_wp2_with fail
        go_ret
        exact ⟨_, _, rfl, (by rw [← HM.out]; exact bts_box R1.out hxz HZB.out HFB.out), R3.out.alloc hxz _⟩

theorem union_bts {p q base base' : Nat} {v u : Value} {n m : Nat} {f g : Nat → Nat} {w : World} (hb : Bts w base p v n f) (hc : Bts w base' q u m g) (hn : n ≤ 1048576) (hm : m ≤ 1048576) :
    Calls Ycvm.prog 28 #[.pointer (some ⟨p, 0, none⟩), .pointer (some ⟨q, 0, none⟩)] w fun e w' => ∃ r v, e = .returned (.pointer (some ⟨r, 0, none⟩)) ∧ Bts w' w.heap.size r v (max n m) (fun i => f i ||| g i) ∧ Below w.heap.size w w' := by
  have c1 := hb.cell
  have c2 := hc.cell
  have zf := hb.zero
  have zg := hc.zero
  have ff := hb.fit
  have fg := hc.fit
  obtain ⟨a1, k1, rfl, r1, m1, m2, _⟩ := hb.slice
  obtain ⟨a2, k2, rfl, r2, _⟩ := hc.slice
  exact union_any p q a1 n k1 f a2 m k2 g w c1 c2 r1 r2 zf zg ff fg hn hm

end Go.Proofs.Ymbrcv
