/-
  THE WALKS OF lelem, lelems, lin, lsub AND OF LawS930007LElems, LawS930007LExtra.
-/
import Derived.Test.YmbrcwCanon
namespace Go.Proofs.Ymbrcw.LLaws
open Go.RowKit Go.Proofs.Ymbrcw
set_option linter.unusedVariables false

/-- What lelem answers. -/
def le29 (x : Nat) : Nat := x * 29 % 4294967296 % 1048576
theorem le29_lt (x : Nat) : le29 x < 1048576 := Nat.mod_lt _ (by omega)
theorem le29_eq (x : Nat) : IntKind.u32.wrap ((x : Int) * 29) % 1048576 = (le29 x : Int) := by
  unfold le29
  rw [IntKind.wrap_u32']
  omega

set_option maxHeartbeats 1000000 in
theorem lelem_any (x : Nat) (hx : x < 4294967296) (w : World) :
    Calls Ycwm.prog 26 #[.int .u32 x] w fun e w' => e = .returned (.int .i64 (le29 x)) ∧ w' = w := by
  go_enter Ycwm.func26, Ycwm.ntmps26
  go_wp2_with fail
  go_ret
  exact ⟨ret_int (by unfold le29; omega), rfl⟩

set_option maxRecDepth 100000 in
set_option maxHeartbeats 1000000 in
theorem lelems_any (a : Option Addr) (n cap : Nat) (f : Nat → Nat) (w : World) (hr : Reads .u32 w a n f) (hf : ∀ i, f i < 4294967296) (hn : n ≤ 1048576) :
    Calls Ycwm.prog 23 #[.slice a n cap] w fun e w' => e = .returned (.slice (some ⟨w.heap.size, 0, none⟩) n n) ∧ Own 3 .i64 w' w.heap.size (.slice (some ⟨w.heap.size, 0, none⟩) n n) n (fun i => le29 (f i)) ∧ Below w.heap.size w w' := by
  have HR : Hid (Reads .u32 w a n f) := hr
  have HF : Hid (∀ i, f i < 4294967296) := hf
  clear hr hf
  obtain ⟨h, hh⟩ : ∃ h : Nat → Nat, h = fun i => le29 (f i) := ⟨_, rfl⟩
  have CL : Hid (∀ i w, Calls Ycwm.prog 26 #[.int .u32 (f i)] w fun e w' => e = .returned (.int .i64 (h i)) ∧ w' = w) := fun i w => by rw [hh]; exact lelem_any (f i) (HF.out i) w
  have HL : Hid (∀ i, h i < 1048576) := fun i => by rw [hh]; exact le29_lt _
  rw [← hh]
  clear hh
  obtain ⟨g, hg⟩ : ∃ g, w.heap.size = g := ⟨_, rfl⟩
  have HG : Hid (w.heap.size = g) := hg
  rw [hg]
  clear hg
  go_enter Ycwm.func23, Ycwm.ntmps23
  go_wp2_with (first | (at_make; refine wpList_make _ rfl _ _ 31 rfl 3 .i64 Ycwm.underlying31 info_int _ _ _ _ n rfl rfl (by omega) (by omega) (by omega) g HG.out ?_))
  intro w1 o1 b1 _ z1
  have O1 : Hid (Own _ _ _ _ _ _ _) := o1
  clear o1 z1
  go_wp2_with fail
  go_loopw [11] (fun t wr => ∃ k : Nat, k ≤ n ∧ t = .int .i64 k ∧ Own 3 .i64 wr g (.slice (some ⟨g, 0, none⟩) n n) n (upto h k) ∧ Below g w wr) (fun t _ => n - (intOf t).toNat)
  case atStart => exact ⟨0, by omega, rfl, by rw [upto_zero]; exact O1.out, b1⟩
  case round =>
    clear O1 b1
    obtain ⟨k, hk, rfl, o1, hb⟩ := hrel
    by_cases hlt : k < n
    · obtain ⟨b, off, rfl, hc⟩ := HR.out k hlt
      have hbg : b < g := by rw [← HG.out]; exact World.block_lt_of_cell? w _ hc
      have c0 : wr.cell? ⟨b, off + k, none⟩ = some (.int .u32 (f k)) := (hb.cell (p := ⟨b, off + k, none⟩) hbg).trans hc
      have c1 := o1.cell k (by omega)
      have f1 := o1.frozen k
      have R1 : Hid (Own _ _ _ _ _ _ _) := o1.set k (h k)
      have R3 : Hid (Below _ _ _) := hb.setCell (p := ⟨g, k, none⟩) (Nat.le_refl _) (.int .i64 (h k))
      have HU : Hid (upd (upto h k) k (h k) = upto h (k + 1)) := upto_succ h k
      have CK : Hid (∀ w, _) := CL.out k
      have hlk := HL.out k
      generalize h k = y at *
      clear o1 hb hc
      go_wp2_with fail
      refine Calls.mono (CK.out _) ?_
      rintro e w5 ⟨rfl, rfl⟩
      go_wp2_with fail
      go_roundw
      case rel => exact ⟨k + 1, by omega, by go_num, by rw [← HU.out]; exact R1.out, R3.out⟩
      case measure => simp [intOf]; omega
    · obtain rfl : k = n := by omega
      have R1 : Hid (Own _ _ _ _ _ _ h) := o1.congr fun i hi => by unfold upto; rw [if_pos hi]
      have R3 : Hid (Below g w wr) := hb
      clear o1 hb
      go_wp2_with fail
      go_ret
      exact ⟨rfl, R1.out, R3.out⟩

set_option maxRecDepth 100000 in
set_option maxHeartbeats 1000000 in
theorem lin_any (a : Option Addr) (n cap : Nat) (h : Nat → Nat) (q : Int) (w : World) (hr : ReadsI w a n fun i => (h i : Int)) (hn : n ≤ 1048576) :
    Calls Ycwm.prog 27 #[.slice a n cap, .int .i64 q] w fun e w' => e = .returned (.bool (occ h n q)) ∧ w' = w := by
  have HR : Hid (ReadsI w a n fun i => (h i : Int)) := hr
  clear hr
  go_enter Ycwm.func27, Ycwm.ntmps27
  go_wp2_with fail
  go_loop [9] (fun t => ∃ k : Nat, k ≤ n ∧ occ h k q = false ∧ t = .int .i64 k) (fun t => n - (intOf t).toNat)
  case atStart => exact ⟨0, by omega, rfl, rfl⟩
  case round =>
    obtain ⟨k, hk, ho, rfl⟩ := hrel
    have HO : Kept (occ h k q = false) := Kept.mk ho
    clear ho
    by_cases hlt : k < n
    · obtain ⟨b, off, rfl, hc⟩ := HR.out k hlt
      have hc' : w.cell? ⟨b, off + k, none⟩ = some (.int .i64 (h k : Int)) := hc
      have HY : Kept (((h k : Nat) : Int) = q → occ h n q = true) := Kept.mk (fun e => occ_iff.2 ⟨k, hlt, e⟩)
      have HN : Kept (((h k : Nat) : Int) ≠ q → occ h (k + 1) q = false) := Kept.mk (fun e => by rw [occ_succ, HO.out, decide_eq_false e]; rfl)
      clear hc
      generalize h k = y at *
      by_cases hyq : (y : Int) = q
      · have e1 : ((y : Int) == q) = true := beq_iff_eq.2 hyq
        have HY2 : Kept (occ h n q = true) := Kept.mk (HY.out hyq)
        clear hyq
        go_wp2_with fail
        go_ret
        exact ⟨ret_bool HY2.out.symm, rfl⟩
      · have e1 : ((y : Int) == q) = false := beq_eq_false_iff_ne.2 hyq
        have HN2 : Kept (occ h (k + 1) q = false) := Kept.mk (HN.out hyq)
        clear hyq
        go_wp2_with fail
        go_round
        case rel => exact ⟨k + 1, by omega, HN2.out, by go_num⟩
        case measure => simp [intOf]; omega
    · obtain rfl : k = n := by omega
      go_wp2_with fail
      go_ret
      exact ⟨ret_bool HO.out.symm, rfl⟩

theorem lin_eq {a : Option Addr} {n cap : Nat} {h : Nat → Nat} {q : Int} {w : World} (hr : ReadsI w a n fun i => (h i : Int)) (hn : n ≤ 1048576) {r : Bool} (e : occ h n q = r) :
    Calls Ycwm.prog 27 #[.slice a n cap, .int .i64 q] w fun e w' => e = .returned (.bool r) ∧ w' = w := e ▸ lin_any a n cap h q w hr hn

/-- What lsub answers. -/
def subB (h : Nat → Nat) (n : Nat) (h' : Nat → Nat) (m : Nat) : Bool := (List.range n).all fun i => occ h' m (h i : Int)
theorem subB_iff {h h' : Nat → Nat} {n m : Nat} : subB h n h' m = true ↔ ∀ i, i < n → occ h' m (h i : Int) = true := by simp [subB]

set_option maxRecDepth 100000 in
set_option maxHeartbeats 1000000 in
theorem lsub_any (a a' : Option Addr) (n cap m cap' : Nat) (h h' : Nat → Nat) (w : World) (hr : ReadsI w a n fun i => (h i : Int)) (hr' : ReadsI w a' m fun i => (h' i : Int)) (hn : n ≤ 1048576) (hm : m ≤ 1048576) :
    Calls Ycwm.prog 24 #[.slice a n cap, .slice a' m cap'] w fun e w' => e = .returned (.bool (subB h n h' m)) ∧ w' = w := by
  have HR : Hid (ReadsI w a n fun i => (h i : Int)) := hr
  have HR' : Hid (ReadsI w a' m fun i => (h' i : Int)) := hr'
  clear hr hr'
  go_enter Ycwm.func24, Ycwm.ntmps24
  go_wp2_with fail
  go_loop [9] (fun t => ∃ k : Nat, k ≤ n ∧ (∀ i, i < k → occ h' m (h i : Int) = true) ∧ t = .int .i64 k) (fun t => n - (intOf t).toNat)
  case atStart => exact ⟨0, by omega, fun i hi => by omega, rfl⟩
  case round =>
    obtain ⟨k, hk, ho, rfl⟩ := hrel
    have HO : Kept (∀ i, i < k → occ h' m (h i : Int) = true) := Kept.mk ho
    clear ho
    by_cases hlt : k < n
    · obtain ⟨b, off, rfl, hc⟩ := HR.out k hlt
      have hc' : w.cell? ⟨b, off + k, none⟩ = some (.int .i64 (h k : Int)) := hc
      clear hc
      cases hoc : occ h' m (h k : Int)
      · have HC : Kept (occ h' m (h k : Int) = false) := Kept.mk hoc
        have HN : Kept (subB h n h' m = false) := Kept.mk (by
          rw [Bool.eq_false_iff]
          intro c
          rw [subB_iff.1 c k hlt] at hoc
          cases hoc)
        clear hoc
        go_wp2_with fail
        refine Calls.mono (lin_eq HR'.out hm HC.out) ?_
        rintro e w5 ⟨rfl, rfl⟩
        go_wp2_with fail
        go_ret
        exact ⟨ret_bool HN.out.symm, rfl⟩
      · have HC : Kept (occ h' m (h k : Int) = true) := Kept.mk hoc
        clear hoc
        go_wp2_with fail
        refine Calls.mono (lin_eq HR'.out hm HC.out) ?_
        rintro e w5 ⟨rfl, rfl⟩
        go_wp2_with fail
        go_round
        case rel =>
          refine ⟨k + 1, by omega, fun i hi => ?_, by go_num⟩
          rcases Nat.lt_or_ge i k with c | c
          · exact HO.out i c
          · rw [show i = k by omega]; exact HC.out
        case measure => simp [intOf]; omega
    · obtain rfl : k = n := by omega
      go_wp2_with fail
      go_ret
      exact ⟨ret_bool (subB_iff.2 HO.out).symm, rfl⟩

theorem lsub_eq {a a' : Option Addr} {n cap m cap' : Nat} {h h' : Nat → Nat} {w : World} (hr : ReadsI w a n fun i => (h i : Int)) (hr' : ReadsI w a' m fun i => (h' i : Int)) (hn : n ≤ 1048576) (hm : m ≤ 1048576) {r : Bool} (e : subB h n h' m = r) :
    Calls Ycwm.prog 24 #[.slice a n cap, .slice a' m cap'] w fun e w' => e = .returned (.bool r) ∧ w' = w := e ▸ lsub_any a a' n cap m cap' h h' w hr hr' hn hm

/-- Sets of numbers in range are Equal exactly when each list lies in the other. -/
theorem eqB_sub {h h' : Nat → Nat} {n m : Nat} (hh : ∀ i, h i < 1048576) (hh' : ∀ i, h' i < 1048576) {N M : Nat} {F G : Nat → Nat} (eN : N = fn (fun i => (h i : Int)) n) (eM : M = fn (fun i => (h' i : Int)) m) (eF : F = fe (fun i => (h i : Int)) n) (eG : G = fe (fun i => (h' i : Int)) m)
    (zf : ∀ i, N ≤ i → F i = 0) (zg : ∀ i, M ≤ i → G i = 0) (ff : Fit64 F) (fg : Fit64 G) : eqB N F M G = (subB h n h' m && subB h' m h n) := by
  subst eN eM eF eG
  rw [Bool.eq_iff_iff, eqB_mem_iff (fe_trimmed _ _) (fe_trimmed _ _) zf zg ff fg, Bool.and_eq_true, subB_iff, subB_iff]
  constructor
  · intro e
    constructor
    · intro i hi
      rw [← memI_fe_nat hh', ← e, memI_fe_nat hh]
      exact occ_iff.2 ⟨i, hi, rfl⟩
    · intro i hi
      rw [← memI_fe_nat hh, e, memI_fe_nat hh']
      exact occ_iff.2 ⟨i, hi, rfl⟩
  · rintro ⟨h1, h2⟩ j
    rw [memI_fe_nat hh, memI_fe_nat hh', Bool.eq_iff_iff]
    constructor
    · intro c
      obtain ⟨i, hi, e⟩ := occ_iff.1 c
      rw [← e]; exact h1 i hi
    · intro c
      obtain ⟨i, hi, e⟩ := occ_iff.1 c
      rw [← e]; exact h2 i hi

set_option maxRecDepth 100000 in
set_option maxHeartbeats 1000000 in
theorem lelems_law (a a' : Option Addr) (n cap m cap' : Nat) (f f' : Nat → Nat) (w : World) (hr : Reads .u32 w a n f) (hf : ∀ i, f i < 4294967296) (hr' : Reads .u32 w a' m f') (hf' : ∀ i, f' i < 4294967296)
    (hn : n ≤ cap) (hm : cap ≤ maxLen) (hn' : m ≤ cap') (hm' : cap' ≤ maxLen) :
    Calls Ycwm.prog 12 #[.slice a n cap, .slice a' m cap'] w fun e w' => e = .returned (.bool true) ∧ Below w.heap.size w w' := by
  unfold maxLen at hm hm'
  by_cases hbig : 1024 < n
  · have d1 : decide ((1024 : Int) < (n : Int)) = true := decide_eq_true (by omega)
    clear hr hr'
    go_enter Ycwm.func12, Ycwm.ntmps12
    go_wp2_with fail
    go_ret
    exact ⟨rfl, Below.refl _ _⟩
  have d1 : decide ((1024 : Int) < (n : Int)) = false := decide_eq_false (by omega)
  by_cases hbig' : 1024 < m
  · have d2 : decide ((1024 : Int) < (m : Int)) = true := decide_eq_true (by omega)
    clear hr hr'
    go_enter Ycwm.func12, Ycwm.ntmps12
    go_wp2_with fail
    go_ret
    exact ⟨rfl, Below.refl _ _⟩
  have d2 : decide ((1024 : Int) < (m : Int)) = false := decide_eq_false (by omega)
  have HR' : Hid (Reads .u32 w a' m f') := hr'
  have HF' : Hid (∀ i, f' i < 4294967296) := hf'
  have C1 : Hid _ := lelems_any a n cap f w hr hf (by omega)
  clear hr hf hr' hf'
  obtain ⟨h, hh⟩ : ∃ h : Nat → Nat, h = fun i => le29 (f i) := ⟨_, rfl⟩
  obtain ⟨h', hh'⟩ : ∃ h' : Nat → Nat, h' = fun i => le29 (f' i) := ⟨_, rfl⟩
  have HL : Hid (∀ i, h i < 1048576) := fun i => by rw [hh]; exact le29_lt _
  have HL' : Hid (∀ i, h' i < 1048576) := fun i => by rw [hh']; exact le29_lt _
  rw [← hh] at C1
  clear hh
  have HH' : Kept (h' = fun i => le29 (f' i)) := Kept.mk hh'
  clear hh'
  go_enter Ycwm.func12, Ycwm.ntmps12
  go_wp2_with fail
  refine Calls.mono C1.out ?_
  rintro e w1 ⟨rfl, o1, b1⟩
  have O1 : Hid (Own _ _ _ _ _ _ _) := o1
  have W1 : Hid (Below w.heap.size w w1) := b1
  have C2 : Hid _ := lelems_any a' m cap' f' w1 (HR'.out.below b1) HF'.out (by omega)
  rw [← HH'.out] at C2
  clear o1 b1 HH'
  have s1 : w.heap.size ≤ w1.heap.size := W1.out.size
  go_wp2_with fail
  refine Calls.mono C2.out ?_
  rintro e w2 ⟨rfl, o2, b2⟩
  have O2 : Hid (Own _ _ _ _ _ _ _) := o2
  have P2 : Hid (Own _ _ _ _ _ _ _) := O1.out.below b2 (Nat.le_refl _)
  have W2 : Hid (Below w.heap.size w w2) := W1.out.trans (b2.mono s1)
  have s2 : w1.heap.size ≤ w2.heap.size := b2.size
  clear o2 b2
  generalize w1.heap.size = g1 at *
  have C3 : Hid _ := from_ok (cap := n) P2.out.reads.toI (by unfold maxLen; omega) (fun i _ => inR_nat (HL.out i))
  go_wp2_with fail
  refine Calls.mono C3.out ?_
  rintro e w3 ⟨p, v, rfl, b3, bel3⟩
  have B3 : Hid (Bts _ _ _ _ _ _) := b3
  have O3 : Hid (Own _ _ _ _ _ _ _) := O2.out.below bel3 (Nat.le_refl _)
  have P3 : Hid (Own _ _ _ _ _ _ _) := P2.out.below bel3 (Nat.le_refl _)
  have W3 : Hid (Below w.heap.size w w3) := W2.out.trans (bel3.mono (by omega))
  have s3 : w2.heap.size ≤ w3.heap.size := bel3.size
  clear b3 bel3
  have C4 : Hid _ := from_ok (cap := m) O3.out.reads.toI (by unfold maxLen; omega) (fun i _ => inR_nat (HL'.out i))
  go_wp2_with fail
  refine Calls.mono C4.out ?_
  rintro e w4 ⟨q, u, rfl, b4, bel4⟩
  have D4 : Hid (Bts _ _ _ _ _ _) := b4
  have B4 : Hid (Bts _ _ _ _ _ _) := B3.out.below bel4 (Nat.le_refl _)
  have O4 : Hid (Own _ _ _ _ _ _ _) := O3.out.below bel4 (Nat.le_refl _)
  have P4 : Hid (Own _ _ _ _ _ _ _) := P3.out.below bel4 (Nat.le_refl _)
  have W4 : Hid (Below w.heap.size w w4) := W3.out.trans (bel4.mono (by omega))
  clear b4 bel4
  have HE : Kept (eqB _ _ _ _ = (subB h n h' m && subB h' m h n)) := Kept.mk (eqB_sub HL.out HL'.out rfl rfl rfl rfl B4.out.zero D4.out.zero B4.out.fit D4.out.fit)
  cases hs1 : subB h n h' m
  · have HS1 : Kept (subB h n h' m = false) := Kept.mk hs1
    rw [hs1] at HE
    clear hs1
    go_wp2_with fail
    refine Calls.mono (lsub_eq P4.out.reads.toI O4.out.reads.toI (by omega) (by omega) HS1.out) ?_
    rintro e w5 ⟨rfl, rfl⟩
    go_wp2_with fail
    refine Calls.mono (equal_bts B4.out D4.out HE.out _ (Still.refl _)) ?_
    rintro e w6 ⟨rfl, s6⟩
    go_wp2_with fail
    go_ret
    exact ⟨rfl, W4.out.trans s6.below⟩
  · have HS1 : Kept (subB h n h' m = true) := Kept.mk hs1
    rw [hs1] at HE
    clear hs1
    cases hs2 : subB h' m h n
    all_goals
      have HS2 : Kept (subB h' m h n = _) := Kept.mk hs2
      rw [hs2] at HE
      clear hs2
      go_wp2_with fail
      refine Calls.mono (lsub_eq P4.out.reads.toI O4.out.reads.toI (by omega) (by omega) HS1.out) ?_
      rintro e w5 ⟨rfl, rfl⟩
      go_wp2_with fail
      refine Calls.mono (lsub_eq O4.out.reads.toI P4.out.reads.toI (by omega) (by omega) HS2.out) ?_
      rintro e w7 ⟨rfl, rfl⟩
      go_wp2_with fail
      refine Calls.mono (equal_bts B4.out D4.out HE.out _ (Still.refl _)) ?_
      rintro e w6 ⟨rfl, s6⟩
      go_wp2_with fail
      go_ret
      exact ⟨rfl, W4.out.trans s6.below⟩
end Go.Proofs.Ymbrcw.LLaws
