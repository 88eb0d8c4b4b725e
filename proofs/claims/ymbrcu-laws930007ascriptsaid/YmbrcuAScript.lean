/-
  THE WALK OF LawS930007AScript: two sets, set by turns.
-/
import Derived.Test.YmbrcuFrom
import Derived.Test.YmbrcuEqual
namespace Go.Proofs.Ymbrcu.ALaws
open Go.RowKit Go.Proofs.Ymbrcu
set_option linter.unusedVariables false

/-- Two slices that do not share their block. -/
def Sep (v u : Value) : Prop := v.ownBlock = none ∨ v.ownBlock ≠ u.ownBlock
theorem Sep.symm {v u : Value} (h : Sep v u) : Sep u v := by
  unfold Sep at *
  rcases h with h | h
  · cases hu : u.ownBlock with
    | none => exact .inl rfl
    | some x => right; rw [h]; simp
  · exact .inr (Ne.symm h)
theorem Sep.touch {w w' : World} {base p n : Nat} {v u u' : Value} {f : Nat → Nat} {q : Nat} (h : Sep v u) (hb : Bts w base p v n f) (ht : Touch w w' q u u') : Sep v u' := by
  unfold Sep at *
  rcases ht.lies with e | ⟨g, e, hg⟩
  · rw [e]; exact h
  · rw [e]
    cases hv : v.ownBlock with
    | none => exact .inl rfl
    | some x =>
      right
      have := (hb.own.lt x hv).2
      intro c
      have : x = g := Option.some.inj c
      omega

/-- Is q in range and among the first k? -/
def fnd (g : Nat → Int) (k : Nat) (q : Int) : Bool := (List.range k).any fun i => inR (g i) && decide (g i = q)
theorem fnd_succ (g : Nat → Int) (k : Nat) (q : Int) : fnd g (k + 1) q = (fnd g k q || (inR (g k) && decide (g k = q))) := by
  unfold fnd
  rw [List.range_succ, List.any_append]
  simp
theorem memI_fnd (g : Nat → Int) (k : Nat) (q : Int) : memI (fe g k) q = fnd g k q := by
  rw [Bool.eq_iff_iff, memI_fe]
  unfold fnd
  simp only [List.any_eq_true, List.mem_range, Bool.and_eq_true, decide_eq_true_iff]
  constructor
  · rintro ⟨hr, i, hi, e⟩
    exact ⟨i, hi, by rw [e]; exact hr, e⟩
  · rintro ⟨i, hi, hr, e⟩
    exact ⟨by rw [← e]; exact hr, i, hi, e⟩

theorem fe_rev (g : Nat → Int) (n : Nat) (j : Int) : memI (fe g n) j = memI (fe (fun i => g (n - 1 - i)) n) j := by
  rw [Bool.eq_iff_iff, memI_fe, memI_fe]
  constructor
  · rintro ⟨hr, i, hi, e⟩
    exact ⟨hr, n - 1 - i, by omega, by show g (n - 1 - (n - 1 - i)) = j; rw [show n - 1 - (n - 1 - i) = i by omega]; exact e⟩
  · rintro ⟨hr, i, hi, e⟩
    exact ⟨hr, n - 1 - i, by omega, e⟩

/-- Sets of the same members, trimmed, are Equal. -/
theorem eqB_of_mem {n m : Nat} {f h : Nat → Nat} (tf : Trimmed n f) (th : Trimmed m h) (zf : ∀ i, n ≤ i → f i = 0) (zh : ∀ i, m ≤ i → h i = 0) (ff : Fit64 f) (fh : Fit64 h) (e : ∀ j : Int, memI f j = memI h j) : eqB n f m h = true := by
  have hfh : f = h := words_ext ff fh fun i => by have := e i; rwa [memI_nat, memI_nat] at this
  subst hfh
  exact eqB_same (trimmed_len tf th zf zh) fun i _ => rfl

theorem tri (x : Int) : (inR x = true ∧ decide (0 ≤ x) = true ∧ decide (x ≤ 1048575) = true) ∨ (inR x = false ∧ decide (0 ≤ x) = true ∧ decide (x ≤ 1048575) = false) ∨ (inR x = false ∧ decide (0 ≤ x) = false) := by
  unfold inR
  cases decide (0 ≤ x) <;> cases decide (x ≤ 1048575) <;> simp

set_option maxRecDepth 100000 in
set_option maxHeartbeats 8000000 in
theorem ascript (a : Option Addr) (n cap : Nat) (g : Nat → Int) (q : Int) (w : World) (hr : ReadsI w a n g) (hg : ∀ i, -9223372036854775808 ≤ g i ∧ g i ≤ 9223372036854775807) (hn : n ≤ cap) (hm : cap ≤ maxLen)
    (h1 : -9223372036854775808 ≤ q) (h2 : q ≤ 9223372036854775807) :
    Calls Ycum.prog 5 #[.slice a n cap, .int .i64 q] w fun e w' => e = .returned (.bool true) ∧ Below w.heap.size w w' := by
  unfold maxLen at hm
  by_cases hbig : 1024 < n
  · go_enter Ycum.func5, Ycum.ntmps5
    go_wp2_with fail
    go_ret
    exact ⟨rfl, Below.refl _ _⟩
  have HR : Hid (ReadsI w a n g) := hr
  have HG : Hid (∀ i, -9223372036854775808 ≤ g i ∧ g i ≤ 9223372036854775807) := hg
  clear hr hg
  obtain ⟨g2, hg2⟩ : ∃ g2 : Nat → Int, g2 = fun i => g (n - 1 - i) := ⟨_, rfl⟩
  have H2 : Hid (∀ i, g2 i = g (n - 1 - i)) := fun i => by rw [hg2]
  have HM : Hid (∀ j, memI (fe g n) j = memI (fe g2 n) j) := fun j => by rw [hg2]; exact fe_rev g n j
  clear hg2
  have B0 : Hid (Bts _ _ _ _ _ _) := (bts_new w w.heap.size (Nat.le_refl _)).below ((Below.refl _ _).alloc (Nat.le_refl _) (.cells #[.slice none 0 0] 27)) (Nat.le_refl _)
  have C0 : Hid (Bts _ _ _ _ _ _) := bts_new (w.alloc (.cells #[.slice none 0 0] 27)) w.heap.size (by simp)
  have W0 : Hid (Below w.heap.size w _) := ((Below.refl w.heap.size w).alloc (Nat.le_refl _) (.cells #[.slice none 0 0] 27)).alloc (by simp) (.cells #[.slice none 0 0] 27)
  have hsz : (w.alloc (.cells #[.slice none 0 0] 27)).heap.size = w.heap.size + 1 := by simp
  rw [hsz] at C0
  clear hsz
  go_enter Ycum.func5, Ycum.ntmps5
  go_wp2_with fail
  go_loopw [7, 8] (fun l t wr => ∃ (k : Nat) (v u : Value), k ≤ n ∧ l = .bool (fnd g k q) ∧ t = .int .i64 k ∧ Bts wr w.heap.size w.heap.size v (fn g k) (fe g k) ∧ Bts wr w.heap.size (w.heap.size + 1) u (fn g2 k) (fe g2 k) ∧ Sep u v ∧ Below w.heap.size w wr) (fun _ t _ => n - (intOf t).toNat)
  case atStart => exact ⟨0, _, _, by omega, rfl, rfl, B0.out, C0.out, .inl rfl, W0.out⟩
  case round =>
    clear B0 C0 W0
    obtain ⟨k, v, u, hk, rfl, rfl, hb, hc, hs, hw⟩ := hrel
    have HB : Hid (Bts _ _ _ _ _ _) := hb
    have HC : Hid (Bts _ _ _ _ _ _) := hc
    have HS : Hid (Sep u v) := hs
    have HW : Hid (Below _ _ _) := hw
    have hz : w.heap.size ≤ wr.heap.size := hw.size
    clear hb hc hs hw
    by_cases hlt : k < n
    · obtain ⟨b, off, rfl, hc1⟩ := HR.out k hlt
      obtain ⟨b', off', e', hc2⟩ := HR.out (n - 1 - k) (by omega)
      cases e'
      have c1 : wr.cell? ⟨b, off + k, none⟩ = some (.int .i64 (g k)) := (HW.out.cell (World.block_lt_of_cell? w _ hc1)).trans hc1
      have HC2 : Hid (∀ w5, Below w.heap.size w w5 → w5.cell? ⟨b, off + (n - 1 - k), none⟩ = some (.int .i64 (g2 k))) := fun w5 h5 => by
        rw [H2.out]; exact (h5.cell (World.block_lt_of_cell? w _ hc2)).trans hc2
      clear hc1 hc2
      have hfn : fn g k ≤ 1048576 := by have := fn_le g k; omega
      have hfn2 : fn g2 k ≤ 1048576 := by have := fn_le g2 k; omega
      have HF : Hid (fnd g (k + 1) q = (fnd g k q || (inR (g k) && decide (g k = q)))) := fnd_succ g k q
      have hx := tri (g k)
      have hy := tri (g2 k)
      have hqq : (decide (g k = q) = true ∧ (g k == q) = true) ∨ (decide (g k = q) = false ∧ (g k == q) = false) := by
        by_cases e : g k = q
        · left; simp [e]
        · right; simp [e]
      generalize fnd g k q = l at *
      rcases hx with ⟨hR, d1, d2⟩ | ⟨hR, d1, d2⟩ | ⟨hR, d1⟩
      all_goals
        have HX : Hid (inR (g k) = _) := hR
        rw [hR] at HF
        clear hR
        rcases hqq with ⟨e1, e2⟩ | ⟨e1, e2⟩
        all_goals
          rw [e1] at HF
          clear e1
          go_wp2_with fail
          refine Calls.mono (set_eq HB.out hfn hz HX.out) ?_
          rintro e w5 ⟨rfl, v5, b5, t5⟩
          have B5 : Hid (Bts _ _ _ _ (fn g (k + 1)) (fe g (k + 1))) := b5
          have C5 : Hid (Bts _ _ _ _ _ _) := t5.other HB.out HC.out (by omega) HS.out
          have S5 : Hid (Sep u v5) := HS.out.touch HC.out t5
          have W5 : Hid (Below _ _ _) := HW.out.trans (t5.below HB.out (Nat.le_refl _) hz)
          have hz5 : w.heap.size ≤ w5.heap.size := Nat.le_trans hz t5.size
          have c2 := HC2.out w5 W5.out
          clear b5 t5
          rcases hy with ⟨hR, d3, d4⟩ | ⟨hR, d3, d4⟩ | ⟨hR, d3⟩
          all_goals
            have HY : Hid (inR (g2 k) = _) := hR
            clear hR
            go_wp2_with fail
            refine Calls.mono (set_eq C5.out hfn2 hz5 HY.out) ?_
            rintro e w6 ⟨rfl, u6, b6, t6⟩
            have C6 : Hid (Bts _ _ _ _ (fn g2 (k + 1)) (fe g2 (k + 1))) := b6
            have B6 : Hid (Bts _ _ _ _ _ _) := t6.other C5.out B5.out (by omega) S5.out.symm
            have S6 : Hid (Sep u6 v5) := (S5.out.symm.touch B5.out t6).symm
            have W6 : Hid (Below _ _ _) := W5.out.trans (t6.below C5.out (Nat.le_refl _) hz5)
            clear b6 t6 c2
            go_wp2_with fail
            go_roundw
            case rel => exact ⟨k + 1, v5, u6, by omega, by rw [HF.out]; simp, by go_num, B6.out, C6.out, S6.out, W6.out⟩
            case measure => simp [intOf]; omega
    · obtain rfl : k = n := by omega
      have HE : Hid (eqB (fn g k) (fe g k) (fn g2 k) (fe g2 k) = true) := eqB_of_mem (fe_trimmed _ _) (fe_trimmed _ _) HB.out.zero HC.out.zero HB.out.fit HC.out.fit HM.out
      have HQ : Hid (memI (fe g k) q = fnd g k q) := memI_fnd g k q
      have HX : Hid (∀ j, j < k → memI (fe g k) (g j) = inR (g j)) := fun j hj => by
        cases hin : inR (g j)
        · rw [Bool.eq_false_iff]
          intro c
          rw [((memI_fe g k (g j)).1 c).1] at hin
          cases hin
        · exact (memI_fe g k (g j)).2 ⟨hin, j, hj, rfl⟩
      generalize fnd g k q = l at *
      go_wp2_with fail
      go_loopw [12] (fun t w2 => ∃ j : Nat, j ≤ k ∧ t = .int .i64 j ∧ Still wr w2) (fun t _ => k - (intOf t).toNat)
      case atStart => exact ⟨0, by omega, rfl, Still.refl _⟩
      case round =>
        obtain ⟨j, hj, rfl, hst⟩ := hrel
        have HST : Hid (Still _ wr) := hst
        clear hst
        by_cases hjk : j < k
        · obtain ⟨b, off, rfl, hc1⟩ := HR.out j hjk
          have c1 : wr.cell? ⟨b, off + j, none⟩ = some (.int .i64 (g j)) := (HST.out.cell _).trans ((HW.out.cell (World.block_lt_of_cell? w _ hc1)).trans hc1)
          clear hc1
          have b1 : (0 : Int) ≤ (j : Int) := by omega
          have b2 : (j : Int) < (k : Int) := by omega
          have hgj := (HG.out j).2
          have HXJ : Hid (memI (fe g k) (g j) = inR (g j)) := HX.out j hjk
          rcases tri (g j) with ⟨hR, d1, d2⟩ | ⟨hR, d1, d2⟩ | ⟨hR, d1⟩
          all_goals
            rw [hR] at HXJ
            clear hR
            go_wp2_with fail
            go_quiet ((go_at_call 19; exact Calls.quiet_of_same (has_eq (HB.out.still (HST.out.drewN _)) hgj HXJ.out)))
            go_wp2_with fail
            go_roundw
            case rel => exact ⟨j + 1, by omega, by go_num, HST.out.drewN _⟩
            case measure => simp [intOf]; omega
        · obtain rfl : j = k := by omega
          have B1 := HB.out.still HST.out
          have C1 := HC.out.still HST.out
          have cb := B1.cell
          have cc := C1.cell
          obtain ⟨a1, p1, rfl, r1, m1, m2, _⟩ := B1.slice
          obtain ⟨a2, p2, rfl, r2, _⟩ := C1.slice
          have CE : Hid (∀ w, _ → _) := equal_still cb cc r1 r2 (Nat.le_trans m1 m2) HE.out
          have HB1 : Hid (Bts _ _ _ _ _ _) := B1
          clear B1 C1 cb cc r1 r2
          go_wp2_with fail
          refine Calls.mono (has_eq HB1.out h2 HQ.out) ?_
          rintro e w6 ⟨rfl, rfl⟩
          go_wp2_with fail
          refine Calls.mono (CE.out _ (Still.refl _)) ?_
          rintro e w7 ⟨rfl, s7⟩
          go_wp2_with fail
          go_ret
          exact ⟨rfl, (HW.out.trans HST.out.below).trans s7.below⟩
end Go.Proofs.Ymbrcu.ALaws
