/-
  THE WALK OF LawS930007IElems.
-/
import Derived.Test.YmbrcwRank
import Derived.Test.YmbrcwFrom
namespace Go.Proofs.Ymbrcw.ILaws
open Go.RowKit Go.Proofs.Ymbrcw Go.Proofs.Ymbrcw.Pop
set_option linter.unusedVariables false

theorem mul37_inj (a b : Nat) (ha : a < 65536) (hb : b < 65536) (h : a * 37 % 65536 = b * 37 % 65536) : a = b := by omega

/-- Is f j, j below i, the same as f k? -/
def eqb (f : Nat → Nat) (k i : Nat) : Bool := (List.range i).any fun j => f j == f k
theorem eqb_succ (f : Nat → Nat) (k i : Nat) : eqb f k (i + 1) = (eqb f k i || (f i == f k)) := by
  unfold eqb
  rw [List.range_succ, List.any_append]
  simp
theorem eqb_iff {f : Nat → Nat} {k i : Nat} : eqb f k i = true ↔ ∃ j, j < i ∧ f j = f k := by simp [eqb]

/-- How many distinct ones of the first k lie below i. -/
def dst (f h : Nat → Nat) (i : Int) : Nat → Nat
  | 0 => 0
  | k + 1 => dst f h i k + (!eqb f k k && decide ((h k : Int) < i)).toNat
theorem dst_le (f h : Nat → Nat) (i : Int) (k : Nat) : dst f h i k ≤ k := by
  induction k with
  | zero => exact Nat.le_refl _
  | succ k ih =>
    have : (!eqb f k k && decide ((h k : Int) < i)).toNat ≤ 1 := by cases (!eqb f k k && decide ((h k : Int) < i)) <;> simp
    simp only [dst]
    omega

theorem rk_fe {f h : Nat → Nat} (hh : ∀ i, h i < 1048576) (hi : ∀ a b, h a = h b ↔ f a = f b) (i : Int) (k : Nat) : rk (fe (fun j => (h j : Int)) k) i = dst f h i k := by
  induction k with
  | zero =>
    show blw (fun _ => 0) i.toNat = 0
    have : ∀ q, blw (fun _ => 0) q = 0 := fun q => by
      induction q with
      | zero => rfl
      | succ q ih => rw [blw, ih]; unfold mem; simp
    exact this _
  | succ k ih =>
    have e1 : fe (fun j => (h j : Int)) (k + 1) = setf (fe (fun j => (h j : Int)) k) (h k) := by
      show setI _ (h k : Int) = _
      unfold setI
      rw [if_pos (inR_nat (hh k)), Int.toNat_natCast]
    have e2 : mem (fe (fun j => (h j : Int)) k) (h k) = eqb f k k := by
      rw [← memI_nat, memI_fe_nat hh, Bool.eq_iff_iff, occ_iff, eqb_iff]
      constructor
      · rintro ⟨j, hj, e⟩
        exact ⟨j, hj, (hi j k).1 (by omega)⟩
      · rintro ⟨j, hj, e⟩
        exact ⟨j, hj, by rw [(hi j k).2 e]⟩
    have e3 : decide (h k < i.toNat) = decide ((h k : Int) < i) := by
      rw [Bool.eq_iff_iff, decide_eq_true_iff, decide_eq_true_iff]; omega
    show blw _ i.toNat = _
    rw [e1, blw_set, e2, e3, dst, ← ih, Bool.and_comm]
    rfl

set_option maxRecDepth 100000 in
set_option maxHeartbeats 1000000 in
theorem ielems (a : Option Addr) (n cap : Nat) (f : Nat → Nat) (at_ : Nat) (w : World) (hr : Reads .u16 w a n f) (hf : ∀ i, f i < 65536) (hn : n ≤ cap) (hm : cap ≤ maxLen) (h1 : at_ < 65536) :
    Calls Ycwm.prog 4 #[.slice a n cap, .int .u16 at_] w fun e w' => e = .returned (.bool true) ∧ Below w.heap.size w w' := by
  unfold maxLen at hm
  by_cases hbig : 512 < n
  · go_enter Ycwm.func4, Ycwm.ntmps4
    go_wp2_with fail
    go_ret
    exact ⟨rfl, Below.refl _ _⟩
  have hb0 : decide ((512 : Int) < (n : Int)) = false := decide_eq_false (by omega)
  have HR : Hid (Reads .u16 w a n f) := hr
  have HF : Hid (∀ i, f i < 65536) := hf
  clear hr hf
  obtain ⟨h, hh⟩ : ∃ h : Nat → Nat, h = fun i => f i * 37 % 65536 := ⟨_, rfl⟩
  have HH : Hid (∀ i, h i = f i * 37 % 65536) := fun i => by rw [hh]
  have HL : Hid (∀ i, h i < 1048576) := fun i => by rw [HH.out]; omega
  have HJ : Hid (∀ a b, h a = h b ↔ f a = f b) := fun a b => by
    rw [HH.out, HH.out]
    exact ⟨mul37_inj _ _ (HF.out a) (HF.out b), fun e => by rw [e]⟩
  clear hh
  obtain ⟨g, hg⟩ : ∃ g, w.heap.size = g := ⟨_, rfl⟩
  have HG : Hid (w.heap.size = g) := hg
  rw [hg]
  clear hg
  have wrapk : Hid (∀ x : Nat, IntKind.u16.wrap ((x : Int) * 37) = ((x * 37 % 65536 : Nat) : Int)) := fun x => by rw [IntKind.wrap_u16]; omega
  go_enter Ycwm.func4, Ycwm.ntmps4
  go_wp2_with (first | (at_make; refine wpList_make _ rfl _ _ 31 rfl 3 .i64 Ycwm.underlying31 info_int _ _ _ _ n rfl rfl (by omega) (by omega) (by omega) g HG.out ?_))
  intro w1 o1 b1 _ z1
  have O1 : Hid (Own _ _ _ _ _ _ _) := o1
  clear o1 z1
  go_wp2_with fail
  go_loopw [6] (fun t wr => ∃ k : Nat, k ≤ n ∧ t = .int .i64 k ∧ Own 3 .i64 wr g (.slice (some ⟨g, 0, none⟩) n n) n (upto h k) ∧ Below g w wr) (fun t _ => n - (intOf t).toNat)
  case atStart => exact ⟨0, by omega, rfl, by rw [upto_zero]; exact O1.out, b1⟩
  case round =>
    clear O1 b1
    obtain ⟨k, hk, rfl, o1, hb⟩ := hrel
    by_cases hlt : k < n
    · obtain ⟨b, off, rfl, hc⟩ := HR.out k hlt
      have hbg : b < g := by rw [← HG.out]; exact World.block_lt_of_cell? w _ hc
      have c0 : wr.cell? ⟨b, off + k, none⟩ = some (.int .u16 (f k)) := (hb.cell (p := ⟨b, off + k, none⟩) hbg).trans hc
      have c1 := o1.cell k (by omega)
      have f1 := o1.frozen k
      have R1 : Hid (Own _ _ _ _ _ _ _) := o1.set k (h k)
      have R3 : Hid (Below _ _ _) := hb.setCell (p := ⟨g, k, none⟩) (Nat.le_refl _) (.int .i64 (h k))
      have HU : Hid (upd (upto h k) k (h k) = upto h (k + 1)) := upto_succ h k
      have hfk := HF.out k
      have hwk := wrapk.out (f k)
      rw [← HH.out k] at hwk
      have hlk := HL.out k
      generalize h k = y at *
      clear o1 hb hc
      go_wp2_with fail
      go_roundw
      case rel => exact ⟨k + 1, by omega, by go_num, by rw [← HU.out]; exact R1.out, R3.out⟩
      case measure => simp [intOf]; omega
    · obtain rfl : k = n := by omega
      have R1 : Hid (Own _ _ _ _ _ _ h) := o1.congr fun i hi => by unfold upto; rw [if_pos hi]
      have R3 : Hid (Below g w wr) := hb
      have hgz : g ≤ wr.heap.size := by rw [← HG.out]; exact hb.size
      clear o1 hb
      have CF : Hid _ := from_ok (cap := k) R1.out.reads.toI (by unfold maxLen; omega) (fun i _ => inR_nat (HL.out i))
      have hwa := wrapk.out at_
      obtain ⟨I, hI⟩ : ∃ I, at_ * 37 % 65536 = I := ⟨_, rfl⟩
      have hIl : I < 65536 := by omega
      rw [hI] at hwa
      clear hI
      go_wp2_with fail
      refine Calls.mono CF.out ?_
      rintro e w5 ⟨p, v, rfl, b5, bel5⟩
      have B5 : Hid (Bts _ _ _ _ _ _) := b5
      have W5 : Hid (Below g w w5) := R3.out.trans (bel5.mono hgz)
      have R5 : Hid (Reads .u16 w5 a k f) := HR.out.below (by rw [HG.out]; exact W5.out)
      have HRK : Kept (rk (fe (fun j => (h j : Int)) k) (I : Int) = dst f h (I : Int) k) := Kept.mk (rk_fe HL.out HJ.out _ _)
      clear b5 bel5
      go_wp2_with fail
      go_loopw [10, 11] (fun c t wq => ∃ q : Nat, q ≤ k ∧ t = .int .i64 q ∧ c = .int .i64 (dst f h (I : Int) q) ∧ Still w5 wq) (fun _ t _ => k - (intOf t).toNat)
      case atStart => exact ⟨0, by omega, rfl, rfl, Still.refl _⟩
      case round =>
        obtain ⟨q, hq, rfl, rfl, hst⟩ := hrel
        have HST : Hid (Still w5 wr) := hst
        clear hst
        have hdl := dst_le f h (I : Int) q
        by_cases hqk : q < k
        · obtain ⟨b, off, rfl, hcq0⟩ := R5.out q hqk
          have hcq : Hid (∀ wx, Still w5 wx → wx.cell? ⟨b, off + q, none⟩ = some (.int .u16 (f q))) := fun wx hx => (hx.cell _).trans hcq0
          have HD : Kept (dst f h (I : Int) (q + 1) = dst f h (I : Int) q + (!eqb f q q && decide ((h q : Int) < (I : Int))).toNat) := Kept.mk rfl
          clear hcq0
          generalize dst f h (I : Int) q = c at *
          have hfq := HF.out q
          go_wp2_with fail
          go_loopw [12, 13] (fun fi t wq => ∃ j : Nat, j ≤ q ∧ t = .int .i64 j ∧ fi = .bool (!eqb f q j) ∧ Still w5 wq) (fun _ t _ => q - (intOf t).toNat)
          case atStart => exact ⟨0, by omega, rfl, rfl, HST.out⟩
          case round =>
            obtain ⟨j, hj, rfl, rfl, hst⟩ := hrel
            have HST2 : Hid (Still w5 wr) := hst
            clear hst
            by_cases hjq : j < q
            · obtain ⟨b', off', e', hcj0⟩ := R5.out j (by omega)
              cases e'
              have cj : wr.cell? ⟨b, off + j, none⟩ = some (.int .u16 (f j)) := (HST2.out.cell _).trans hcj0
              have cq : wr.cell? ⟨b, off + q, none⟩ = some (.int .u16 (f q)) := hcq.out _ HST2.out
              have HE : Kept (eqb f q (j + 1) = (eqb f q j || (f j == f q))) := Kept.mk (eqb_succ f q j)
              clear hcj0
              have b1 : (0 : Int) ≤ (j : Int) := by omega
              have b2 : (j : Int) < (k : Int) := by omega
              have b3 : (0 : Int) ≤ (q : Int) := by omega
              have b4 : (q : Int) < (k : Int) := by omega
              have hj3 : (j : Int) < (q : Int) := by omega
              by_cases hfe : f j = f q
              · rw [hfe, beq_self_eq_true, Bool.or_true] at HE
                rw [hfe] at cj
                clear hfe
                go_wp2_with fail
                go_quiet (fail)
                go_wp2_with fail
                go_roundw
                case rel => exact ⟨j + 1, by omega, by go_num, by rw [HE.out]; rfl, HST2.out.drewN _⟩
                case measure => simp [intOf]; omega
              · have hbe : ((f j : Int) == (f q : Int)) = false := beq_eq_false_iff_ne.2 (by omega)
                rw [beq_eq_false_iff_ne.2 hfe, Bool.or_false] at HE
                clear hfe
                go_wp2_with fail
                go_quiet (fail)
                go_wp2_with fail
                go_roundw
                case rel => exact ⟨j + 1, by omega, by go_num, by rw [HE.out], HST2.out.drewN _⟩
                case measure => simp [intOf]; omega
            · obtain rfl : j = q := by omega
              have cq := hcq.out _ HST2.out
              have hwk := wrapk.out (f j)
              rw [← HH.out j] at hwk
              have hlk := HL.out j
              generalize h j = y at *
              cases hfo : eqb f j j
              · rw [hfo] at HD
                by_cases hyI : (y : Int) < (I : Int)
                · have d1 : decide ((y : Int) < (I : Int)) = true := decide_eq_true hyI
                  rw [d1] at HD
                  clear hfo d1
                  go_wp2_with fail
                  go_roundw
                  case rel => exact ⟨j + 1, by omega, by go_num, by rw [HD.out]; go_num, HST2.out⟩
                  case measure => simp [intOf]; omega
                · have d1 : decide ((y : Int) < (I : Int)) = false := decide_eq_false hyI
                  rw [d1] at HD
                  clear hfo d1
                  go_wp2_with fail
                  go_roundw
                  case rel => exact ⟨j + 1, by omega, by go_num, by rw [HD.out]; go_num, HST2.out⟩
                  case measure => simp [intOf]; omega
              · rw [hfo] at HD
                clear hfo
                go_wp2_with fail
                go_roundw
                case rel => exact ⟨j + 1, by omega, by go_num, by rw [HD.out]; go_num, HST2.out⟩
                case measure => simp [intOf]; omega
        · obtain rfl : q = k := by omega
          have HB6 : Hid (Bts _ _ _ _ _ _) := B5.out.still HST.out
          have hfn := fn_le (fun j => (h j : Int)) q
          generalize dst f h (I : Int) q = c at *
          go_wp2_with fail
          refine Calls.mono (rank_bts HB6.out (by omega) (by omega) HRK.out) ?_
          rintro e w6 ⟨rfl, rfl⟩
          go_wp2_with fail
          go_ret
          exact ⟨by simp, W5.out.trans HST.out.below⟩
end Go.Proofs.Ymbrcw.ILaws
