/-
  A SET IN MEMORY: the struct behind a pointer, its words in a block of their own; what a method may touch.
-/
import Derived.Test.YmbrcuOwn
namespace Go.Proofs.Ymbrcu
open Go.RowKit
set_option linter.unusedVariables false

/-- Block p holds a struct Bits whose slice v owns n words, f 0 .. f (n-1); all of it in blocks from 'base' on. (f is 0 behind the words.) -/
structure Bts (w : World) (base p : Nat) (v : Value) (n : Nat) (f : Nat → Nat) : Prop where
  box : w.heap[p]? = some (.cells #[v] 27 (0, 0))
  ge : base ≤ p
  own : Own 30 .u64 w base v n f
  zero : ∀ i, n ≤ i → f i = 0
  fit : Fit64 f

/-- From w to w' only the set at p, whose slice was v and is v' now, may have turned. -/
structure Touch (w w' : World) (p : Nat) (v v' : Value) : Prop where
  os : w'.os = w.os
  tape : w'.tape = w.tape
  output : w'.output = w.output
  size : w.heap.size ≤ w'.heap.size
  block : ∀ k, k < w.heap.size → k ≠ p → some k ≠ v.ownBlock → w'.heap[k]? = w.heap[k]?
  lies : v'.ownBlock = v.ownBlock ∨ ∃ g, v'.ownBlock = some g ∧ w.heap.size ≤ g

theorem Touch.refl (w : World) (p : Nat) (v : Value) : Touch w w p v v := ⟨rfl, rfl, rfl, Nat.le_refl _, fun _ _ _ _ => rfl, .inl rfl⟩

theorem Touch.trans {w w1 w2 : World} {p : Nat} {v v1 v2 : Value} (h : Touch w w1 p v v1) (k : Touch w1 w2 p v1 v2) : Touch w w2 p v v2 := by
  refine ⟨k.os.trans h.os, k.tape.trans h.tape, k.output.trans h.output, Nat.le_trans h.size k.size, fun b hb hp hv => ?_, ?_⟩
  · refine (k.block b (Nat.lt_of_lt_of_le hb h.size) hp ?_).trans (h.block b hb hp hv)
    rcases h.lies with e | ⟨g, e, hg⟩
    · rw [e]; exact hv
    · rw [e]
      intro c
      have : b = g := Option.some.inj c
      omega
  · rcases k.lies with e | ⟨g, e, hg⟩
    · rcases h.lies with e' | ⟨g', e', hg'⟩
      · exact .inl (e.trans e')
      · exact .inr ⟨g', e.trans e', hg'⟩
    · exact .inr ⟨g, e, Nat.le_trans h.size hg⟩

theorem Touch.still {w w1 w2 : World} {p : Nat} {v v1 : Value} (h : Touch w w1 p v v1) (k : Still w1 w2) : Touch w w2 p v v1 := by
  obtain ⟨q, rfl⟩ := k
  exact ⟨h.os, h.tape, h.output, h.size, h.block, h.lies⟩

theorem Touch.below {w w' : World} {base p n B : Nat} {v v' : Value} {f : Nat → Nat} (h : Touch w w' p v v') (hb : Bts w base p v n f) (hB : B ≤ base) (hz : B ≤ w.heap.size) : Below B w w' := by
  refine ⟨h.os, h.tape, h.output, h.size, fun k hk => h.block k (by omega) ?_ ?_⟩
  · have := hb.ge; omega
  · intro c
    have := (hb.own.lt k c.symm).1
    omega

section
variable {w : World} {base p n : Nat} {v : Value} {f : Nat → Nat}

theorem Bts.lt (h : Bts w base p v n f) : p < w.heap.size := (Array.getElem?_eq_some_iff.1 h.box).1

theorem Bts.cell (h : Bts w base p v n f) : w.cell? ⟨p, 0, none⟩ = some v := by
  rw [cell_of_row w p 0 #[v] 27 (0, 0) h.box]; rfl

theorem Bts.frozen (h : Bts w base p v n f) : w.frozen? ⟨p, 0, none⟩ = false := frozen_of_row w p 0 #[v] 27 h.box

/-- The words do not lie over a struct. -/
theorem own_ne_box {u : Value} (ho : Own 30 .u64 w base v n f) (hq : w.heap[p]? = some (.cells #[u] 27 (0, 0))) : v.ownBlock ≠ some p := by
  rcases ho.2 with ⟨rfl, _⟩ | ⟨g, cap, cur, rfl, _, hg, _⟩
  · simp [Value.ownBlock]
  · intro c
    have e : g = p := by simpa [Value.ownBlock] using c
    subst e
    rw [hq] at hg
    simp at hg

theorem Bts.ne (h : Bts w base p v n f) : v.ownBlock ≠ some p := own_ne_box h.own h.box

/-- What the slice's value looks like. -/
theorem Bts.slice (h : Bts w base p v n f) : ∃ a cap, v = .slice a n cap ∧ Reads .u64 w a n f ∧ n ≤ cap ∧ cap ≤ maxLen ∧ (a = none → cap = 0) := by
  rcases h.own.form with ⟨rfl, rfl⟩ | ⟨g, cap, rfl, _, _, hn, hm⟩
  · exact ⟨none, 0, rfl, Reads.zero, Nat.le_refl _, by decide, fun _ => rfl⟩
  · exact ⟨_, cap, rfl, h.own.reads, hn, hm, fun h => by cases h⟩

/-- A set whose blocks are as they were is as it was. -/
theorem Bts.keep {w' : World} (h : Bts w base p v n f) (hk : ∀ k, k = p ∨ v.ownBlock = some k → w'.heap[k]? = w.heap[k]?) : Bts w' base p v n f :=
  ⟨by rw [hk p (.inl rfl)]; exact h.box, h.ge, h.own.keep fun b hb => hk b (.inr hb), h.zero, h.fit⟩

theorem Bts.below {w' : World} {B : Nat} (h : Bts w base p v n f) (hb : Below B w w') (hB : w.heap.size ≤ B) : Bts w' base p v n f :=
  h.keep fun k hk => hb.block k (by
    rcases hk with rfl | hk
    · have := h.lt; omega
    · have := (h.own.lt k hk).2; omega)

theorem Bts.still {w' : World} (h : Bts w base p v n f) (hs : Still w w') : Bts w' base p v n f := h.keep fun k _ => by rw [hs.heap]

theorem Bts.drew (h : Bts w base p v n f) : Bts w.drew base p v n f := h.keep fun k _ => rfl

theorem Bts.mono {base' : Nat} (h : Bts w base p v n f) (hb : base' ≤ base) : Bts w base' p v n f := ⟨h.box, Nat.le_trans hb h.ge, h.own.mono hb, h.zero, h.fit⟩

/-- Another set is left alone. -/
theorem Touch.other {w' : World} {q m : Nat} {u u' : Value} {g : Nat → Nat} {base' : Nat} (ht : Touch w w' q u u') (hq : Bts w base' q u m g) (h : Bts w base p v n f) (hpq : p ≠ q) (hvu : v.ownBlock = none ∨ v.ownBlock ≠ u.ownBlock) : Bts w' base p v n f :=
  h.keep fun k hk => by
    rcases hk with rfl | hk
    · exact ht.block k h.lt hpq (fun c => own_ne_box hq.own h.box c.symm)
    · refine ht.block k (h.own.lt k hk).2 (fun c => ?_) (fun c => ?_)
      · subst c; exact own_ne_box h.own hq.box hk
      · rcases hvu with e | e
        · rw [e] at hk; cases hk
        · exact e (hk.trans c)

theorem Bts.congr {g : Nat → Nat} (h : Bts w base p v n f) (hg : f = g) : Bts w base p v n g := hg ▸ h
end

theorem Below.still {B : Nat} {w w1 w2 : World} (h : Below B w w1) (k : Still w1 w2) : Below B w w2 := h.trans k.below

/-- A new struct over a slice that is owned. -/
theorem bts_box {w : World} {base n : Nat} {v : Value} {f : Nat → Nat} (ho : Own 30 .u64 w base v n f) (hb : base ≤ w.heap.size) (hz : ∀ i, n ≤ i → f i = 0) (hf : Fit64 f) :
    Bts (w.alloc (.cells #[v] 27)) base w.heap.size v n f := ⟨heap_alloc_new w _, hb, ho.alloc _, hz, hf⟩

/-- The empty set: a new struct over the nil slice. -/
theorem bts_new (w : World) (base : Nat) (hb : base ≤ w.heap.size) : Bts (w.alloc (.cells #[.slice none 0 0] 27)) base w.heap.size (.slice none 0 0) 0 fun _ => 0 :=
  bts_box ⟨rfl, .inl ⟨rfl, rfl⟩⟩ hb (fun _ _ => rfl) (fun _ => by omega)

/-- 'b.words = append(b.words, 0)': one word more. -/
theorem bts_grow {wr w1 : World} {base p m g cap : Nat} {v1 : Value} {f : Nat → Nat} (h : Bts wr base p v1 m f) (o : Obj)
    (hown : w1.ownsRow base 30 1 (.slice (some ⟨g, 0, none⟩) (m + 1) cap) (m + 1) ((List.range m).map (fun i => Value.int .u64 (f i : Nat)) ++ [.int .u64 0]))
    (hgrow : (wr.alloc o).grownBy w1 v1.ownBlock) (hat : v1.ownBlock = some g ∨ g = wr.heap.size + 1) :
    Bts (w1.setCell ⟨p, 0, none⟩ (.slice (some ⟨g, 0, none⟩) (m + 1) cap)) base p (.slice (some ⟨g, 0, none⟩) (m + 1) cap) (m + 1) f ∧
      Touch wr (w1.setCell ⟨p, 0, none⟩ (.slice (some ⟨g, 0, none⟩) (m + 1) cap)) p v1 (.slice (some ⟨g, 0, none⟩) (m + 1) cap) ∧
      w1.cell? ⟨p, 0, none⟩ = some v1 ∧ w1.frozen? ⟨p, 0, none⟩ = false := by
  have hp := h.lt
  have hsz : (wr.alloc o).heap.size = wr.heap.size + 1 := by simp
  have hbox : w1.heap[p]? = some (.cells #[v1] 27 (0, 0)) := by
    rw [hgrow.block p (by omega) (fun c => h.ne c.symm), Below.heap_alloc _ _ _ hp]
    exact h.box
  have hgp : g ≠ p := by
    rcases hat with e | e
    · intro c; subst c; exact h.ne e
    · omega
  have hown' : Own 30 .u64 w1 base (.slice (some ⟨g, 0, none⟩) (m + 1) cap) (m + 1) f := by
    unfold Own
    rw [List.range_succ, List.map_append]
    have e : (f m : Nat) = 0 := h.zero m (Nat.le_refl _)
    simpa [e] using hown
  refine ⟨⟨?_, h.ge, hown'.setOther (by simpa [Value.ownBlock] using hgp) _, fun i hi => h.zero i (by omega), h.fit⟩, ⟨?_, ?_, ?_, ?_, fun k hk hkp hkv => ?_, ?_⟩, ?_, ?_⟩
  · have := heap_setCell_same w1 p 0 #[v1] 27 (.slice (some ⟨g, 0, none⟩) (m + 1) cap) hbox
    simpa using this
  · exact hgrow.os
  · exact hgrow.tape
  · exact hgrow.output
  · have := hgrow.size
    simp [World.setCell]
    omega
  · rw [Below.heap_setCell _ _ _ _ hkp, hgrow.block k (by omega) hkv, Below.heap_alloc _ _ _ hk]
  · rcases hat with e | e
    · exact .inl (by rw [e]; rfl)
    · exact .inr ⟨g, rfl, by omega⟩
  · rw [cell_of_row w1 p 0 #[v1] 27 (0, 0) hbox]; rfl
  · exact frozen_of_row w1 p 0 #[v1] 27 hbox

/-- 'b.words[k] = x': one word stored. -/
theorem bts_store {w : World} {base p n g cap : Nat} {f : Nat → Nat} (h : Bts w base p (.slice (some ⟨g, 0, none⟩) n cap) n f) (k x : Nat) (hk : k < n) (hx : x < 18446744073709551616) :
    Bts (w.setCell ⟨g, k, none⟩ (.int .u64 x)) base p (.slice (some ⟨g, 0, none⟩) n cap) n (upd f k x) ∧
      Touch w (w.setCell ⟨g, k, none⟩ (.int .u64 x)) p (.slice (some ⟨g, 0, none⟩) n cap) (.slice (some ⟨g, 0, none⟩) n cap) := by
  have hgp : p ≠ g := fun c => h.ne (by rw [c]; rfl)
  refine ⟨⟨?_, h.ge, h.own.set k x, fun i hi => ?_, fun i => ?_⟩, ⟨rfl, rfl, rfl, by simp [World.setCell], fun b hb hbp hbv => ?_, .inl rfl⟩⟩
  · rw [Below.heap_setCell _ _ _ _ hgp]; exact h.box
  · rw [upd_other _ _ _ _ (by omega)]; exact h.zero i hi
  · unfold upd
    split
    · exact hx
    · exact h.fit i
  · exact Below.heap_setCell _ _ _ _ (fun c => hbv (by simp [Value.ownBlock, c]))

end Go.Proofs.Ymbrcu
