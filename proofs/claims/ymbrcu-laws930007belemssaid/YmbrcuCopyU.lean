/-
  THE WALKS OF THE COPYING HELPERS (acopy, dcopy).
-/
import Derived.Test.YmbrcuBits
namespace Go.Proofs.Ymbrcu
open Go.RowKit
set_option linter.unusedVariables false

set_option maxHeartbeats 1000000 in
theorem acopy_any (a : Option Addr) (n cap : Nat) (f : Nat → Nat) (w : World) (hr : Reads .u64 w a n f) (hn : n ≤ 1048576) (hnc : n ≤ cap) (hz : a = none → cap = 0) :
    Calls Ycum.prog 16 #[.slice a n cap] w fun e w' => ∃ v, e = .returned v ∧ Own 30 .u64 w' w.heap.size v n f ∧ Below w.heap.size w w' ∧ w.heap.size ≤ w'.heap.size := by
  have hnil := fun (w : World) (a : Option Addr) (n c : Nat) => Lib.run_eql_slice_nil (P := Ycum.prog) w 22 30 a n c 0 0 Ycum.underlying22
  cases a with
  | none =>
    obtain rfl := hz rfl
    obtain rfl : n = 0 := by omega
    go_enter Ycum.func16, Ycum.ntmps16
    go_wp2_with fail
    go_ret
    exact ⟨_, rfl, ⟨rfl, .inl ⟨rfl, rfl⟩⟩, Below.refl _ _, by omega⟩
  | some x =>
  clear hz
  have HR : Hid (Reads .u64 w (some x) n f) := hr
  clear hr
  obtain ⟨g, hg⟩ : ∃ g, w.heap.size = g := ⟨_, rfl⟩
  have HG : Hid (w.heap.size = g) := hg
  rw [hg]
  clear hg
  go_enter Ycum.func16, Ycum.ntmps16
  go_wp2_with (first | (at_make; refine wpList_make _ rfl _ _ 22 rfl 30 .u64 Ycum.underlying22 info_u64 _ _ _ _ n rfl rfl (by omega) (by omega) (by omega) g HG.out ?_))
  intro w1 o1 b1 _ z1
  have O1 : Hid (Own _ _ _ _ _ _ _) := o1
  clear o1 z1
  go_wp2_with fail
  go_loopw [4] (fun t wr => ∃ k : Nat, k ≤ n ∧ t = .int .i64 k ∧ Own 30 .u64 wr g (.slice (some ⟨g, 0, none⟩) n n) n (upto f k) ∧ Below g w wr) (fun t _ => n - (intOf t).toNat)
  case atStart => exact ⟨0, by omega, rfl, by rw [upto_zero]; exact O1.out, b1⟩
  case round =>
    clear O1 b1
    obtain ⟨k, hk, rfl, o1, hb⟩ := hrel
    by_cases hlt : k < n
    · obtain ⟨b, off, e, hc⟩ := HR.out k hlt
      cases e
      have hbg : b < g := by rw [← HG.out]; exact World.block_lt_of_cell? w _ hc
      have c0 : wr.cell? ⟨b, off + k, none⟩ = some (.int .u64 (f k)) := (hb.cell (p := ⟨b, off + k, none⟩) hbg).trans hc
      have c1 := o1.cell k (by omega)
      have f1 := o1.frozen k
      have R1 : Hid (Own _ _ _ _ _ _ _) := o1.set k (f k)
      have R3 : Hid (Below _ _ _) := hb.setCell (p := ⟨g, k, none⟩) (Nat.le_refl _) (.int .u64 (f k))
      clear o1 hb hc
      go_wp2_with fail
      go_roundw
      case rel => exact ⟨k + 1, by omega, by go_num, by rw [← upto_succ]; exact R1.out, R3.out⟩
      case measure => simp [intOf]; omega
    · obtain rfl : k = n := by omega
      have R1 : Hid (Own _ _ _ _ _ _ f) := o1.congr fun i hi => by unfold upto; rw [if_pos hi]
      have R3 : Hid (Below _ _ _) := hb
      clear o1 hb
      go_wp2_with fail
      go_ret
      exact ⟨_, rfl, R1.out, R3.out, by rw [← HG.out]; exact R3.out.size⟩

set_option maxHeartbeats 1000000 in
theorem dcopy_any (a : Option Addr) (n cap : Nat) (f : Nat → Nat) (w : World) (hr : Reads .u64 w a n f) (hn : n ≤ 1048576) (hnc : n ≤ cap) :
    Calls Ycum.prog 31 #[.slice a n cap] w fun e w' => ∃ v, e = .returned v ∧ Own 30 .u64 w' w.heap.size v n f ∧ Below w.heap.size w w' ∧ w.heap.size ≤ w'.heap.size := by
  have HR : Hid (Reads .u64 w a n f) := hr
  clear hr
  obtain ⟨g, hg⟩ : ∃ g, w.heap.size = g := ⟨_, rfl⟩
  have HG : Hid (w.heap.size = g) := hg
  rw [hg]
  clear hg
  go_enter Ycum.func31, Ycum.ntmps31
  go_wp2_with (first | (at_make; refine wpList_make _ rfl _ _ 22 rfl 30 .u64 Ycum.underlying22 info_u64 _ _ _ _ n rfl rfl (by omega) (by omega) (by omega) g HG.out ?_))
  intro w1 o1 b1 _ z1
  have O1 : Hid (Own _ _ _ _ _ _ _) := o1
  clear o1 z1
  go_wp2_with fail
  go_loopw [11] (fun t wr => ∃ k : Nat, k ≤ n ∧ t = .int .i64 k ∧ Own 30 .u64 wr g (.slice (some ⟨g, 0, none⟩) n n) n (upto f k) ∧ Below g w wr) (fun t _ => n - (intOf t).toNat)
  case atStart => exact ⟨0, by omega, rfl, by rw [upto_zero]; exact O1.out, b1⟩
  case round =>
    clear O1 b1
    obtain ⟨k, hk, rfl, o1, hb⟩ := hrel
    by_cases hlt : k < n
    · obtain ⟨b, off, e, hc⟩ := HR.out k hlt
      cases e
      have hbg : b < g := by rw [← HG.out]; exact World.block_lt_of_cell? w _ hc
      have c0 : wr.cell? ⟨b, off + k, none⟩ = some (.int .u64 (f k)) := (hb.cell (p := ⟨b, off + k, none⟩) hbg).trans hc
      have c1 := o1.cell k (by omega)
      have f1 := o1.frozen k
      have R1 : Hid (Own _ _ _ _ _ _ _) := o1.set k (f k)
      have R3 : Hid (Below _ _ _) := hb.setCell (p := ⟨g, k, none⟩) (Nat.le_refl _) (.int .u64 (f k))
      clear o1 hb hc
      go_wp2_with fail
      go_roundw
      case rel => exact ⟨k + 1, by omega, by go_num, by rw [← upto_succ]; exact R1.out, R3.out⟩
      case measure => simp [intOf]; omega
    · obtain rfl : k = n := by omega
      have R1 : Hid (Own _ _ _ _ _ _ f) := o1.congr fun i hi => by unfold upto; rw [if_pos hi]
      have R3 : Hid (Below _ _ _) := hb
      clear o1 hb
      go_wp2_with fail
      go_ret
      exact ⟨_, rfl, R1.out, R3.out, by rw [← HG.out]; exact R3.out.size⟩

end Go.Proofs.Ymbrcu
