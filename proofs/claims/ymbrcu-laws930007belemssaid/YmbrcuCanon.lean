/-
  EQUAL SETS ARE SETS OF THE SAME MEMBERS (trimmed words).
-/
import Derived.Test.YmbrcuFrom
import Derived.Test.YmbrcuEqual
namespace Go.Proofs.Ymbrcu
open Go.RowKit
set_option linter.unusedVariables false

theorem eqB_of_mem {n m : Nat} {f h : Nat → Nat} (tf : Trimmed n f) (th : Trimmed m h) (zf : ∀ i, n ≤ i → f i = 0) (zh : ∀ i, m ≤ i → h i = 0) (ff : Fit64 f) (fh : Fit64 h) (e : ∀ j : Int, memI f j = memI h j) : eqB n f m h = true := by
  have hfh : f = h := words_ext ff fh fun i => by have := e i; rwa [memI_nat, memI_nat] at this
  subst hfh
  exact eqB_same (trimmed_len tf th zf zh) fun i _ => rfl

theorem mem_of_eqB {n m : Nat} {f h : Nat → Nat} (zf : ∀ i, n ≤ i → f i = 0) (zh : ∀ i, m ≤ i → h i = 0) (e : eqB n f m h = true) : f = h := by
  obtain ⟨rfl, hk⟩ := eqB_iff.1 e
  funext i
  rcases Nat.lt_or_ge i n with c | c
  · exact hk i c
  · rw [zf i c, zh i c]

/-- Equal says whether the members are the same. -/
theorem eqB_mem_iff {n m : Nat} {f h : Nat → Nat} (tf : Trimmed n f) (th : Trimmed m h) (zf : ∀ i, n ≤ i → f i = 0) (zh : ∀ i, m ≤ i → h i = 0) (ff : Fit64 f) (fh : Fit64 h) : eqB n f m h = true ↔ ∀ j : Int, memI f j = memI h j :=
  ⟨fun e j => by rw [mem_of_eqB zf zh e], eqB_of_mem tf th zf zh ff fh⟩

/-- Two slices that do not share their block. -/
def Sep (v u : Value) : Prop := v.ownBlock = none ∨ v.ownBlock ≠ u.ownBlock
theorem Sep.symm {v u : Value} (h : Sep v u) : Sep u v := by
  unfold Sep at *
  rcases h with h | h
  · cases hu : u.ownBlock with
    | none => exact .inl rfl
    | some x => right; rw [h]; simp
  · exact .inr (Ne.symm h)
theorem Sep.touch {w w' : World} {base p n : Nat} {v u u' : Value} {f : Nat → Nat} {q : Nat} (h : Sep v u) (hb : Bts w base p v n f) (ht : Touch w w' q u u') : Sep v u' := by
  unfold Sep at *
  rcases ht.lies with e | ⟨g, e, hg⟩
  · rw [e]; exact h
  · rw [e]
    cases hv : v.ownBlock with
    | none => exact .inl rfl
    | some x =>
      right
      have := (hb.own.lt x hv).2
      intro c
      have : x = g := Option.some.inj c
      omega
/-- A set from 'base' on lies apart from one below 'base'. -/
theorem sep_base {w w0 : World} {base base' p q n m : Nat} {v u : Value} {f h : Nat → Nat} (hv : Bts w0 base' p v n f) (hu : Bts w base q u m h) (hb : w0.heap.size ≤ base) : p ≠ q ∧ Sep v u := by
  refine ⟨?_, ?_⟩
  · have h1 := hv.lt
    have h2 := hu.ge
    omega
  · unfold Sep
    cases hv' : v.ownBlock with
    | none => exact .inl rfl
    | some x =>
      right
      intro c
      have h1 := (hv.own.lt x hv').2
      have h2 := (hu.own.lt x c.symm).1
      omega

/-- Equal between two sets, in whatever world that has only drawn since. -/
theorem equal_bts {W : World} {base base' p q n m : Nat} {v u : Value} {f h : Nat → Nat} (hb : Bts W base p v n f) (hc : Bts W base' q u m h) {r : Bool} (hr : eqB n f m h = r) :
    ∀ w, Still W w → Calls Ycum.prog 20 #[.pointer (some ⟨p, 0, none⟩), .pointer (some ⟨q, 0, none⟩)] w fun e w' => e = .returned (.bool r) ∧ Still W w' := by
  have c1 := hb.cell
  have c2 := hc.cell
  obtain ⟨a1, k1, rfl, r1, m1, m2, _⟩ := hb.slice
  obtain ⟨a2, k2, rfl, r2, _⟩ := hc.slice
  exact equal_still c1 c2 r1 r2 (Nat.le_trans m1 m2) hr

end Go.Proofs.Ymbrcu
