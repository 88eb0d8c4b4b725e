/-
  THE GROUND OF THIS SEAT's WALKS: a slice of numbers in memory, read as a function of the place; plain facts.
-/
import Derived.Test.YmbrcuRows
import Derived.WalkKit
import Derived.WalkSpells
import Derived.WalkLawsBesides
import Derived.OpenShut
import Derived.Carry
namespace Go.Proofs.Ymbrcu
open Go.RowKit
set_option linter.unusedVariables false

/-- A fact kept from the walk, also from its 'contradiction', which lays an equation's two sides open and reckons them. -/
def Kept (p : Prop) : Prop := True → p
theorem Kept.mk {p : Prop} (h : p) : Kept p := fun _ => h
theorem Kept.out {p : Prop} (h : Kept p) : p := h trivial

/-- The slice at a, of n elements, holds the numbers f 0, f 1, .. -/
def Reads (k : IntKind) (w : World) (a : Option Addr) (n : Nat) (f : Nat → Nat) : Prop :=
  ∀ i, i < n → ∃ b off, a = some ⟨b, off, none⟩ ∧ w.cell? ⟨b, off + i, none⟩ = some (.int k (f i))

/-- The world has only drawn: its memory is as it was. -/
def Still (w w' : World) : Prop := ∃ q, w' = w.drewN q
theorem Still.refl (w : World) : Still w w := ⟨0, rfl⟩
theorem drewN_add (w : World) (q r : Nat) : (w.drewN q).drewN r = w.drewN (q + r) := by
  simp [World.drewN, Nat.add_assoc]
theorem Still.drewN {w w' : World} (h : Still w w') (r : Nat) : Still w (w'.drewN r) := by
  obtain ⟨q, rfl⟩ := h
  exact ⟨q + r, drewN_add w q r⟩
theorem Still.trans {w w' w'' : World} (h : Still w w') (k : Still w' w'') : Still w w'' := by
  obtain ⟨q, rfl⟩ := k
  exact h.drewN q
theorem Still.cell {w w' : World} (h : Still w w') (p : Addr) : w'.cell? p = w.cell? p := by
  obtain ⟨q, rfl⟩ := h
  rfl
theorem Still.frozen {w w' : World} (h : Still w w') (p : Addr) : w'.frozen? p = w.frozen? p := by
  obtain ⟨q, rfl⟩ := h
  rfl
theorem Still.heap {w w' : World} (h : Still w w') : w'.heap = w.heap := by
  obtain ⟨q, rfl⟩ := h
  rfl
theorem Still.below {w w' : World} {B : Nat} (h : Still w w') : Below B w w' := by
  obtain ⟨q, rfl⟩ := h
  exact ⟨rfl, rfl, rfl, Nat.le_refl _, fun _ _ => rfl⟩
theorem Still.reads {k : IntKind} {w w' : World} {a : Option Addr} {n : Nat} {f : Nat → Nat} (h : Still w w') (hr : Reads k w a n f) : Reads k w' a n f := fun i hi => by
  obtain ⟨b, off, e, hc⟩ := hr i hi
  exact ⟨b, off, e, by rw [h.cell]; exact hc⟩

/-- Words: every value fits into 64 bits. -/
def Fit64 (f : Nat → Nat) : Prop := ∀ i, f i < 18446744073709551616

theorem Reads.at {k : IntKind} {w : World} {a : Option Addr} {n : Nat} {f : Nat → Nat} (h : Reads k w a n f) (h0 : 0 < n) :
    ∃ b off, a = some ⟨b, off, none⟩ ∧ ∀ i, i < n → w.cell? ⟨b, off + i, none⟩ = some (.int k (f i)) := by
  obtain ⟨b, off, rfl, _⟩ := h 0 h0
  refine ⟨b, off, rfl, fun i hi => ?_⟩
  obtain ⟨b', off', e, hc⟩ := h i hi
  cases e
  exact hc

theorem Reads.mk {k : IntKind} {w : World} {b off n : Nat} {f : Nat → Nat} (h : ∀ i, i < n → w.cell? ⟨b, off + i, none⟩ = some (.int k (f i))) :
    Reads k w (some ⟨b, off, none⟩) n f := fun i hi => ⟨b, off, rfl, h i hi⟩

theorem Reads.zero {k : IntKind} {w : World} {a : Option Addr} {f : Nat → Nat} : Reads k w a 0 f := fun i hi => by omega

theorem Reads.less {k : IntKind} {w : World} {a : Option Addr} {n m : Nat} {f : Nat → Nat} (h : Reads k w a n f) (hm : m ≤ n) : Reads k w a m f := fun i hi => h i (by omega)

/-- What is read stays read in a world in which those cells are as they were. -/
theorem Reads.keep {k : IntKind} {w w' : World} {a : Option Addr} {n : Nat} {f : Nat → Nat} (h : Reads k w a n f)
    (hw : ∀ b off, b < w.heap.size → w'.cell? ⟨b, off, none⟩ = w.cell? ⟨b, off, none⟩) : Reads k w' a n f := fun i hi => by
  obtain ⟨b, off, e, hc⟩ := h i hi
  exact ⟨b, off, e, by rw [hw b _ (World.block_lt_of_cell? w _ hc)]; exact hc⟩

theorem Reads.below {k : IntKind} {w w' : World} {a : Option Addr} {n : Nat} {f : Nat → Nat} (h : Reads k w a n f) (hb : Below w.heap.size w w') : Reads k w' a n f :=
  h.keep fun b off hlt => hb.cell (p := ⟨b, off, none⟩) hlt

theorem ret_int {k : IntKind} {a b : Int} (h : a = b) : Ending.returned (.int k a) = .returned (.int k b) := by rw [h]
theorem ret_bool {a b : Bool} (h : a = b) : Ending.returned (.bool a) = .returned (.bool b) := by rw [h]

theorem nat_of_u64 (a : Int) (h : (Lit.int .u64 a).wf = true) : ∃ x : Nat, a = x ∧ x < 18446744073709551616 := by
  have := bounds_u64 h
  exact ⟨a.toNat, by omega, by omega⟩
theorem nat_of_u32 (a : Int) (h : (Lit.int .u32 a).wf = true) : ∃ x : Nat, a = x ∧ x < 4294967296 := by
  have := bounds_u32 h
  exact ⟨a.toNat, by omega, by omega⟩
theorem nat_of_u16 (a : Int) (h : (Lit.int .u16 a).wf = true) : ∃ x : Nat, a = x ∧ x < 65536 := by
  have := bounds_u16 h
  exact ⟨a.toNat, by omega, by omega⟩
theorem nat_of_u8 (a : Int) (h : (Lit.int .u8 a).wf = true) : ∃ x : Nat, a = x ∧ x < 256 := by
  have := bounds_u8 h
  exact ⟨a.toNat, by omega, by omega⟩
theorem bd_i64 (a : Int) (h : (Lit.int .i64 a).wf = true) : -9223372036854775808 ≤ a ∧ a ≤ 9223372036854775807 := by
  simp [Lit.wf, IntKind.min, IntKind.max, IntKind.signed, IntKind.bits] at h
  omega

/-- The shells' 'IsRow', word for word. -/
def IsRow (k : IntKind) (w : World) (a : Option Addr) (len cap : Nat) (zs : List Int) : Prop :=
  (a = none ∧ len = 0 ∧ cap = 0 ∧ zs = []) ∨
  ∃ x, a = some x ∧ len ≤ cap ∧ cap ≤ maxLen ∧ zs.length = cap ∧ (∀ i, i < zs.length → w.cell? (x.add i) = some (.int k (zs.getD i 0))) ∧ ∀ n ∈ zs, (Lit.int k n).wf = true

theorem getD_mem {zs : List Int} {i : Nat} (h : i < zs.length) : zs.getD i 0 ∈ zs := by
  have e : zs.getD i 0 = zs[i] := by simp [h]
  rw [e]; exact List.getElem_mem h

/-- What an argument's slice of unsigned numbers says to the walks. -/
theorem reads_of_row {k : IntKind} {B : Nat} (hk : ∀ a : Int, (Lit.int k a).wf = true → ∃ x : Nat, a = x ∧ x < B) (hB : 0 < B) {w : World} {a : Option Addr} {len cap : Nat} {zs : List Int} (h : IsRow k w a len cap zs) :
    ∃ f : Nat → Nat, Reads k w a len f ∧ (∀ i, f i < B) ∧ (∀ i, len ≤ i → f i = 0) ∧ len ≤ cap ∧ cap ≤ maxLen ∧ (a = none → cap = 0) := by
  rcases h with ⟨rfl, rfl, rfl, rfl⟩ | ⟨x, rfl, hl, hm, hz, hc, hw⟩
  · exact ⟨fun _ => 0, Reads.zero, fun _ => hB, fun _ _ => rfl, Nat.le_refl _, by decide, fun _ => rfl⟩
  · refine ⟨fun i => if i < len then (zs.getD i 0).toNat else 0, fun i hi => ?_, fun i => ?_, fun i hi => if_neg (by omega), hl, hm, fun h => by cases h⟩
    · obtain ⟨b, off, spot⟩ := x
      have hi' : i < zs.length := by omega
      have hci := hc i hi'
      obtain ⟨y, hy, _⟩ := hk (zs.getD i 0) (hw _ (getD_mem hi'))
      have hs : spot = none := by simpa [Addr.add] using World.cell?_spot (hc 0 (by omega))
      subst hs
      refine ⟨b, off, rfl, ?_⟩
      have e : (⟨b, off, none⟩ : Addr).add i = ⟨b, off + i, none⟩ := by unfold Addr.add; split <;> simp_all
      rw [e] at hci
      show _ = some (Value.int k ((if i < len then (zs.getD i 0).toNat else 0 : Nat) : Int))
      rw [if_pos hi, hci, hy, Int.toNat_natCast]
    · show (if i < len then (zs.getD i 0).toNat else 0) < B
      by_cases hi : i < len
      · obtain ⟨y, hy, hlt⟩ := hk (zs.getD i 0) (hw _ (getD_mem (by omega)))
        rw [if_pos hi, hy]; simpa using hlt
      · rw [if_neg hi]; exact hB

/-- How long the words are, the zero words at the end left out. -/
def tl (f : Nat → Nat) : Nat → Nat
  | 0 => 0
  | n + 1 => if f n = 0 then tl f n else n + 1

theorem tl_le (f : Nat → Nat) (n : Nat) : tl f n ≤ n := by
  induction n with
  | zero => simp [tl]
  | succ n ih => simp only [tl]; split <;> omega

theorem tl_zero (f : Nat → Nat) (n i : Nat) (h1 : tl f n ≤ i) (h2 : i < n) : f i = 0 := by
  induction n with
  | zero => omega
  | succ n ih =>
    simp only [tl] at h1
    split at h1
    · rename_i h
      by_cases e : i = n
      · rw [e]; exact h
      · exact ih h1 (by omega)
    · omega

theorem tl_last (f : Nat → Nat) (n : Nat) (h : 0 < tl f n) : f (tl f n - 1) ≠ 0 := by
  induction n with
  | zero => simp [tl] at h
  | succ n ih =>
    simp only [tl] at h ⊢
    split
    · rename_i e
      rw [if_pos e] at h
      exact ih h
    · rename_i e
      simpa using e

end Go.Proofs.Ymbrcu
