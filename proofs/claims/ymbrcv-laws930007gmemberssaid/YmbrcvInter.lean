/-
  THE WALK OF (*Bits).Intersect.
-/
import Derived.Test.YmbrcvBits
import Derived.Test.YmbrcvTrim
import Derived.Deep.DeepCutAuto
import Derived.RegionTactic
import Derived.BigRegion
namespace Go.Proofs.Ymbrcv
open Go.RowKit
set_option linter.unusedVariables false

theorem and_fit {f g : Nat → Nat} (hf : Fit64 f) : Fit64 fun i => f i &&& g i := fun i => Nat.lt_of_le_of_lt Nat.and_le_left (hf i)

theorem tl_zero_all {f : Nat → Nat} {n : Nat} (hz : ∀ i, n ≤ i → f i = 0) : ∀ i, tl f n ≤ i → f i = 0 := fun i hi => by
  rcases Nat.lt_or_ge i n with c | c
  · exact tl_zero f n i hi c
  · exact hz i c

set_option maxRecDepth 100000 in
set_option maxHeartbeats 2000000 in
theorem inter_any (p q : Nat) (a : Option Addr) (n cap : Nat) (f : Nat → Nat) (a' : Option Addr) (m cap' : Nat) (g : Nat → Nat) (w : World)
    (hp : w.cell? ⟨p, 0, none⟩ = some (.slice a n cap)) (hq : w.cell? ⟨q, 0, none⟩ = some (.slice a' m cap')) (hf : Reads .u64 w a n f) (hg : Reads .u64 w a' m g) (zf : ∀ i, n ≤ i → f i = 0) (zg : ∀ i, m ≤ i → g i = 0) (ff : Fit64 f) (fg : Fit64 g) (hn : n ≤ 1048576) (hm : m ≤ 1048576) :
    Calls Ycvm.prog 21 #[.pointer (some ⟨p, 0, none⟩), .pointer (some ⟨q, 0, none⟩)] w fun e w' => ∃ r v, e = .returned (.pointer (some ⟨r, 0, none⟩)) ∧ Bts w' w.heap.size r v (tl (fun i => f i &&& g i) (min n m)) (fun i => f i &&& g i) ∧ Below w.heap.size w w' := by
  have RF : Hid (Reads .u64 w a n f) := hf
  have RG : Hid (Reads .u64 w a' m g) := hg
  have FF : Hid (Fit64 f) := ff
  have FG : Hid (Fit64 g) := fg
  obtain ⟨K, hK⟩ : ∃ K, min n m = K := ⟨_, rfl⟩
  obtain ⟨F, hF⟩ : ∃ F : Nat → Nat, F = fun i => f i &&& g i := ⟨_, rfl⟩
  have HF : Kept (∀ i, F i = f i &&& g i) := Kept.mk (fun i => by rw [hF])
  have HFF : Hid (Fit64 F) := by rw [hF]; exact and_fit ff
  have HFZ : Hid (∀ i, K ≤ i → F i = 0) := fun i hi => by
    rw [HF.out]
    rcases Nat.lt_or_ge i n with c | c
    · rw [zg i (by omega), Nat.and_zero]
    · rw [zf i c, Nat.zero_and]
  rw [hK, ← hF]
  clear hf hg zf zg ff fg hF
  have CP : Hid (w.cell? ⟨p, 0, none⟩ = some (.slice a n cap)) := hp
  have CQ : Hid (w.cell? ⟨q, 0, none⟩ = some (.slice a' m cap')) := hq
  obtain ⟨x, hx⟩ : ∃ x, w.heap.size = x := ⟨_, rfl⟩
  have HX : Kept (w.heap.size = x) := Kept.mk hx
  rw [hx]
  clear hx
  go_enter Ycvm.func21, Ycvm.ntmps21
  go_upto_if 19 with fail
  go_cut [5] (fun t wc => t = .int .i64 K ∧ wc = w)
  case first =>
    by_cases c : m < n
    · have e1 : K = m := by omega
      subst e1
      clear hK
      go_wp2_with fail
      go_meet
      case rel => exact ⟨rfl, rfl⟩
    · have e1 : K = n := by omega
      subst e1
      clear hK
      go_wp2_with fail
      go_meet
      case rel => exact ⟨rfl, rfl⟩
  case rest =>
    obtain ⟨rfl, rfl⟩ := hcut
    have hKn : K ≤ n := by omega
    have hKm : K ≤ m := by omega
    clear hK hp hq
    go_wp2_with (first | (at_make; refine wpList_make _ rfl _ _ 26 rfl 33 .u64 Ycvm.underlying26 info_u64 _ _ _ _ K rfl rfl (by omega) (by omega) (by omega) x HX.out ?_))
    intro w1 o1 b1 _ z1
    have O1 : Hid (Own _ _ _ _ _ _ _) := o1
    clear o1 z1
    go_wp2_with fail
    go_loopw [7] (fun t wr => ∃ k : Nat, k ≤ K ∧ t = .int .i64 k ∧ Own 33 .u64 wr x (.slice (some ⟨x, 0, none⟩) K K) K (upto F k) ∧ Below x wc wr) (fun t _ => K - (intOf t).toNat)
    case atStart => exact ⟨0, by omega, rfl, by rw [upto_zero]; exact O1.out, b1⟩
    case round =>
      clear O1 b1
      obtain ⟨k, hk, rfl, o1, hb⟩ := hrel
      by_cases hlt : k < K
      · obtain ⟨b, off, rfl, hc⟩ := RF.out k (by omega)
        obtain ⟨b', off', rfl, hc'⟩ := RG.out k (by omega)
        have lt : ∀ {y : Addr} {v : Value}, wc.cell? y = some v → y.block < x := fun h => by rw [← HX.out]; exact World.block_lt_of_cell? wc _ h
        have c0 : wr.cell? ⟨b, off + k, none⟩ = some (.int .u64 (f k)) := (hb.cell (lt hc)).trans hc
        have c1 : wr.cell? ⟨b', off' + k, none⟩ = some (.int .u64 (g k)) := (hb.cell (lt hc')).trans hc'
        have c2 : wr.cell? ⟨p, 0, none⟩ = some (.slice (some ⟨b, off, none⟩) n cap) := (hb.cell (lt CP.out)).trans CP.out
        have c3 : wr.cell? ⟨q, 0, none⟩ = some (.slice (some ⟨b', off', none⟩) m cap') := (hb.cell (lt CQ.out)).trans CQ.out
        have c4 := o1.cell k hlt
        have f4 := o1.frozen k
        have HAN : Kept (bits .and .u64 (f k : Int) (g k : Int) = (F k : Int)) := Kept.mk (by rw [HF.out]; exact u64_and_nat _ _ (FF.out k) (FG.out k))
        have R1 : Hid (Own _ _ _ _ _ _ _) := o1.set k (F k)
        have R3 : Hid (Below x wc _) := hb.setCell (p := ⟨x, k, none⟩) (Nat.le_refl _) (.int .u64 (F k))
        have HU : Kept (upd (upto F k) k (F k) = upto F (k + 1)) := Kept.mk (upto_succ F k)
        have b1 : (0 : Int) ≤ (k : Int) := by omega
        have b2 : (k : Int) < (n : Int) := by omega
        have b3 : (k : Int) < (m : Int) := by omega
        have b4 : (k : Int) < (K : Int) := by omega
        clear o1 hb hc hc' lt
        go_wp2_with fail
        go_region
        all_goals
          go_wp2_with fail
          go_roundw
          case rel => exact ⟨k + 1, by omega, by go_num, by rw [HAN.out, ← HU.out]; exact R1.out.keep fun _ _ => rfl, by rw [HAN.out]; exact R3.out.drew⟩
          case measure => simp [intOf]; omega
      · obtain rfl : k = K := by omega
        have R1 : Hid (Own _ _ _ _ _ _ F) := o1.congr fun i hi => by unfold upto; rw [if_pos hi]
        have R3 : Hid (Below x wc wr) := hb
        have hxz : x ≤ wr.heap.size := by rw [← HX.out]; exact hb.size
        have CT : Hid _ := trim_any (some ⟨x, 0, none⟩) k k F wr R1.out.reads (Nat.le_refl _) (by unfold maxLen; omega) (fun h => by cases h)
        clear o1 hb
        go_wp2_with fail
        refine Calls.mono CT.out ?_
        rintro e w5 ⟨rfl, rfl⟩
        go_wp2_with fail
        go_ret
        exact ⟨_, _, rfl, bts_box (R1.out.less (tl_le F k)) hxz (tl_zero_all HFZ.out) HFF.out, R3.out.alloc hxz _⟩

theorem inter_bts {p q base base' : Nat} {v u : Value} {n m : Nat} {f g : Nat → Nat} {w : World} (hb : Bts w base p v n f) (hc : Bts w base' q u m g) (hn : n ≤ 1048576) (hm : m ≤ 1048576) :
    Calls Ycvm.prog 21 #[.pointer (some ⟨p, 0, none⟩), .pointer (some ⟨q, 0, none⟩)] w fun e w' => ∃ r v, e = .returned (.pointer (some ⟨r, 0, none⟩)) ∧ Bts w' w.heap.size r v (tl (fun i => f i &&& g i) (min n m)) (fun i => f i &&& g i) ∧ Below w.heap.size w w' := by
  have c1 := hb.cell
  have c2 := hc.cell
  have zf := hb.zero
  have zg := hc.zero
  have ff := hb.fit
  have fg := hc.fit
  obtain ⟨a1, k1, rfl, r1, m1, m2, _⟩ := hb.slice
  obtain ⟨a2, k2, rfl, r2, _⟩ := hc.slice
  exact inter_any p q a1 n k1 f a2 m k2 g w c1 c2 r1 r2 zf zg ff fg hn hm

end Go.Proofs.Ymbrcv
