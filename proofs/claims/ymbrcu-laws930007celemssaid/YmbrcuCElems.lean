/-
  THE WALKS OF celems, cin AND LawS930007CElems.
-/
import Derived.Test.YmbrcuUnion
import Derived.Test.YmbrcuCanon
namespace Go.Proofs.Ymbrcu.CLaws
open Go.RowKit Go.Proofs.Ymbrcu
set_option linter.unusedVariables false

/-- What celems makes of a number. -/
def ce41 (x : Nat) : Nat := x * 41 % 1048576
theorem ce41_lt (x : Nat) : ce41 x < 1048576 := Nat.mod_lt _ (by omega)
theorem ce41_eq (x : Nat) : ((x : Int) * 41) % 1048576 = (ce41 x : Int) := by unfold ce41; omega

set_option maxRecDepth 100000 in
set_option maxHeartbeats 1000000 in
theorem celems_any (a : Option Addr) (n cap : Nat) (f : Nat → Nat) (w : World) (hr : Reads .u32 w a n f) (hf : ∀ i, f i < 4294967296) (hn : n ≤ 1048576) :
    Calls Ycum.prog 29 #[.slice a n cap] w fun e w' => e = .returned (.slice (some ⟨w.heap.size, 0, none⟩) n n) ∧ Own 3 .i64 w' w.heap.size (.slice (some ⟨w.heap.size, 0, none⟩) n n) n (fun i => ce41 (f i)) ∧ Below w.heap.size w w' := by
  have HR : Hid (Reads .u32 w a n f) := hr
  have HF : Hid (∀ i, f i < 4294967296) := hf
  clear hr hf
  obtain ⟨h, hh⟩ : ∃ h : Nat → Nat, h = fun i => ce41 (f i) := ⟨_, rfl⟩
  have HE : Hid (∀ i, ((f i : Int) * 41) % 1048576 = (h i : Int)) := fun i => by rw [hh]; exact ce41_eq (f i)
  have HL : Hid (∀ i, h i < 1048576) := fun i => by rw [hh]; exact ce41_lt _
  rw [← hh]
  clear hh
  obtain ⟨g, hg⟩ : ∃ g, w.heap.size = g := ⟨_, rfl⟩
  have HG : Hid (w.heap.size = g) := hg
  rw [hg]
  clear hg
  go_enter Ycum.func29, Ycum.ntmps29
  go_wp2_with (first | (at_make; refine wpList_make _ rfl _ _ 34 rfl 3 .i64 Ycum.underlying34 info_int _ _ _ _ n rfl rfl (by omega) (by omega) (by omega) g HG.out ?_))
  intro w1 o1 b1 _ z1
  have O1 : Hid (Own _ _ _ _ _ _ _) := o1
  clear o1 z1
  go_wp2_with fail
  go_loopw [4] (fun t wr => ∃ k : Nat, k ≤ n ∧ t = .int .i64 k ∧ Own 3 .i64 wr g (.slice (some ⟨g, 0, none⟩) n n) n (upto h k) ∧ Below g w wr) (fun t _ => n - (intOf t).toNat)
  case atStart => exact ⟨0, by omega, rfl, by rw [upto_zero]; exact O1.out, b1⟩
  case round =>
    clear O1 b1
    obtain ⟨k, hk, rfl, o1, hb⟩ := hrel
    by_cases hlt : k < n
    · obtain ⟨b, off, rfl, hc⟩ := HR.out k hlt
      have hbg : b < g := by rw [← HG.out]; exact World.block_lt_of_cell? w _ hc
      have c0 : wr.cell? ⟨b, off + k, none⟩ = some (.int .u32 (f k)) := (hb.cell (p := ⟨b, off + k, none⟩) hbg).trans hc
      have c1 := o1.cell k (by omega)
      have f1 := o1.frozen k
      have R1 : Hid (Own _ _ _ _ _ _ _) := o1.set k (h k)
      have R3 : Hid (Below _ _ _) := hb.setCell (p := ⟨g, k, none⟩) (Nat.le_refl _) (.int .i64 (h k))
      have HU : Hid (upd (upto h k) k (h k) = upto h (k + 1)) := upto_succ h k
      have hek := HE.out k
      have hlk := HL.out k
      have hfk := HF.out k
      generalize h k = y at *
      clear o1 hb hc
      go_wp2_with fail
      go_roundw
      case rel => exact ⟨k + 1, by omega, by go_num, by rw [← HU.out]; exact R1.out, R3.out⟩
      case measure => simp [intOf]; omega
    · obtain rfl : k = n := by omega
      have R1 : Hid (Own _ _ _ _ _ _ h) := o1.congr fun i hi => by unfold upto; rw [if_pos hi]
      have R3 : Hid (Below g w wr) := hb
      clear o1 hb
      go_wp2_with fail
      go_ret
      exact ⟨rfl, R1.out, R3.out⟩

set_option maxRecDepth 100000 in
set_option maxHeartbeats 1000000 in
theorem cin_any (a : Option Addr) (n cap : Nat) (h : Nat → Nat) (q : Int) (w : World) (hr : ReadsI w a n fun i => (h i : Int)) (hn : n ≤ 1048576) :
    Calls Ycum.prog 30 #[.slice a n cap, .int .i64 q] w fun e w' => e = .returned (.bool (occ h n q)) ∧ w' = w := by
  have HR : Hid (ReadsI w a n fun i => (h i : Int)) := hr
  clear hr
  go_enter Ycum.func30, Ycum.ntmps30
  go_wp2_with fail
  go_loop [5] (fun t => ∃ k : Nat, k ≤ n ∧ occ h k q = false ∧ t = .int .i64 k) (fun t => n - (intOf t).toNat)
  case atStart => exact ⟨0, by omega, rfl, rfl⟩
  case round =>
    obtain ⟨k, hk, ho, rfl⟩ := hrel
    have HO : Kept (occ h k q = false) := Kept.mk ho
    clear ho
    by_cases hlt : k < n
    · obtain ⟨b, off, rfl, hc⟩ := HR.out k hlt
      have hc' : w.cell? ⟨b, off + k, none⟩ = some (.int .i64 (h k : Int)) := hc
      have HY : Kept (((h k : Nat) : Int) = q → occ h n q = true) := Kept.mk (fun e => occ_iff.2 ⟨k, hlt, e⟩)
      have HN : Kept (((h k : Nat) : Int) ≠ q → occ h (k + 1) q = false) := Kept.mk (fun e => by rw [occ_succ, HO.out, decide_eq_false e]; rfl)
      clear hc
      generalize h k = y at *
      by_cases hyq : (y : Int) = q
      · have e1 : ((y : Int) == q) = true := beq_iff_eq.2 hyq
        have HY2 : Kept (occ h n q = true) := Kept.mk (HY.out hyq)
        clear hyq
        go_wp2_with fail
        go_ret
        exact ⟨ret_bool HY2.out.symm, rfl⟩
      · have e1 : ((y : Int) == q) = false := beq_eq_false_iff_ne.2 hyq
        have HN2 : Kept (occ h (k + 1) q = false) := Kept.mk (HN.out hyq)
        clear hyq
        go_wp2_with fail
        go_round
        case rel => exact ⟨k + 1, by omega, HN2.out, by go_num⟩
        case measure => simp [intOf]; omega
    · obtain rfl : k = n := by omega
      go_wp2_with fail
      go_ret
      exact ⟨ret_bool HO.out.symm, rfl⟩

theorem cin_eq {a : Option Addr} {n cap : Nat} {h : Nat → Nat} {q : Int} {w : World} (hr : ReadsI w a n fun i => (h i : Int)) (hn : n ≤ 1048576) {r : Bool} (e : occ h n q = r) :
    Calls Ycum.prog 30 #[.slice a n cap, .int .i64 q] w fun e w' => e = .returned (.bool r) ∧ w' = w := e ▸ cin_any a n cap h q w hr hn

/-- Two lists, one behind the other. -/
def jn (h : Nat → Nat) (n : Nat) (h' : Nat → Nat) : Nat → Nat := fun i => if i < n then h i else h' (i - n)
theorem jn_left (h h' : Nat → Nat) {n i : Nat} (hi : i < n) : jn h n h' i = h i := if_pos hi
theorem jn_right (h h' : Nat → Nat) (n i : Nat) : jn h n h' (n + i) = h' i := by
  unfold jn
  rw [if_neg (by omega), Nat.add_sub_cancel_left]
theorem occ_jn (h h' : Nat → Nat) (n m : Nat) (q : Int) : occ (jn h n h') (n + m) q = (occ h n q || occ h' m q) := by
  rw [Bool.eq_iff_iff, Bool.or_eq_true, occ_iff, occ_iff, occ_iff]
  constructor
  · rintro ⟨i, hi, e⟩
    rcases Nat.lt_or_ge i n with c | c
    · exact .inl ⟨i, c, by rw [jn_left h h' c] at e; exact e⟩
    · refine .inr ⟨i - n, by omega, ?_⟩
      have := jn_right h h' n (i - n)
      rw [show n + (i - n) = i by omega] at this
      rw [← this]; exact e
  · rintro (⟨i, hi, e⟩ | ⟨i, hi, e⟩)
    · exact ⟨i, by omega, by rw [jn_left h h' hi]; exact e⟩
    · exact ⟨n + i, by omega, by rw [jn_right]; exact e⟩

theorem mem_or (f g : Nat → Nat) (i : Nat) : mem (fun k => f k ||| g k) i = (mem f i || mem g i) := by
  unfold mem
  exact Nat.testBit_or _ _ _
theorem memI_or (f g : Nat → Nat) (i : Int) : memI (fun k => f k ||| g k) i = (memI f i || memI g i) := by
  unfold memI
  split
  · rfl
  · exact mem_or f g _
theorem trimmed_or {n m : Nat} {f g : Nat → Nat} (tf : Trimmed n f) (tg : Trimmed m g) : Trimmed (max n m) fun k => f k ||| g k := by
  rcases Nat.eq_zero_or_pos (max n m) with h0 | h0
  · exact .inl h0
  · right
    rcases Nat.lt_or_ge n m with c | c
    · rw [Nat.max_eq_right (by omega)]
      rcases tg with t | t
      · omega
      · show f (m - 1) ||| g (m - 1) ≠ 0
        rw [Nat.or_comm]
        exact or_ne_zero_left _ _ t
    · rw [Nat.max_eq_left c]
      rcases tf with t | t
      · omega
      · exact or_ne_zero_left _ _ t
end Go.Proofs.Ymbrcu.CLaws
