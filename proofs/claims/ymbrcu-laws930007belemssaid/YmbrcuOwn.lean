/-
  SLICES OF NUMBERS THAT THE CALL ITSELF MAKES, read as functions of the place.
-/
import Derived.Test.YmbrcuBase
import Derived.Handy
import Derived.Deep.AppendLies
namespace Go.Proofs.Ymbrcu
open Go.RowKit

/-- The slice value v, of n elements of type e, owns the numbers f 0 .. f (n-1), in a block from 'base' on. -/
def Own (e : TypeId) (k : IntKind) (w : World) (base : Nat) (v : Value) (n : Nat) (f : Nat → Nat) : Prop :=
  w.ownsRow base e 1 v n ((List.range n).map fun i => Value.int k (f i : Nat))

theorem info_u64 : (Ycum.prog.info? 30).map (fun i => (i.zero, i.size, i.bytes)) = some (some (.int .u64 0), 1, 8) := by kernel_rfl
theorem info_int : (Ycum.prog.info? 3).map (fun i => (i.zero, i.size, i.bytes)) = some (some (.int .i64 0), 1, 8) := by kernel_rfl

section
variable {e : TypeId} {k : IntKind} {w : World} {base : Nat} {v : Value} {n : Nat} {f : Nat → Nat}

theorem range_map_replicate (k : IntKind) (n : Nat) : (List.range n).map (fun _ => Value.int k ((0 : Nat) : Int)) = List.replicate n (Value.int k 0) := by
  apply List.ext_getElem?
  intro i
  by_cases h : i < n
  · simp [h]
  · simp [h]

theorem Own.made (h : w.ownsRow base e 1 v n (madeCells (Value.int k 0).cells (n * 1)).toList) : Own e k w base v n fun _ => 0 := by
  unfold Own
  have e1 : (Value.int k 0).cells = #[.int k 0] := rfl
  rw [e1, toList_madeCells_one, Nat.mul_one] at h
  rw [range_map_replicate]
  exact h

theorem Own.congr {g : Nat → Nat} (h : Own e k w base v n f) (hg : ∀ i, i < n → f i = g i) : Own e k w base v n g := by
  unfold Own at *
  have e1 : (List.range n).map (fun i => Value.int k (f i : Nat)) = (List.range n).map fun i => Value.int k (g i : Nat) := by
    apply List.map_congr_left
    intro i hi
    rw [hg i (by simpa using hi)]
  rw [← e1]
  exact h

/-- What such a value looks like. -/
theorem Own.form (h : Own e k w base v n f) : (v = .slice none 0 0 ∧ n = 0) ∨ ∃ g cap, v = .slice (some ⟨g, 0, none⟩) n cap ∧ base ≤ g ∧ g < w.heap.size ∧ n ≤ cap ∧ cap ≤ maxLen := by
  rcases h.2 with h0 | ⟨g, cap, cur, hv, hb, hg, hn, hm, _⟩
  · exact .inl h0
  · exact .inr ⟨g, cap, hv, hb, (Array.getElem?_eq_some_iff.1 hg).1, hn, hm⟩

theorem Own.cell {g cap : Nat} (h : Own e k w base (.slice (some ⟨g, 0, none⟩) n cap) n f) (i : Nat) (hi : i < n) : w.cell? ⟨g, i, none⟩ = some (.int k (f i)) := by
  rw [World.ownsRow.cellAt h i (by omega)]
  simp [hi]

theorem Own.frozen {g cap : Nat} (h : Own e k w base (.slice (some ⟨g, 0, none⟩) n cap) n f) (i : Nat) : w.frozen? ⟨g, i, none⟩ = false := World.ownsRow.frozenAt h i

theorem Own.reads {a : Option Addr} {cap : Nat} (h : Own e k w base (.slice a n cap) n f) : Reads k w a n f := by
  rcases h.form with ⟨h0, rfl⟩ | ⟨g, c, hv, _⟩
  · exact Reads.zero
  · cases hv
    exact Reads.mk fun i hi => by rw [Nat.zero_add]; exact h.cell i hi

/-- What such a value looks like, in one form. -/
theorem Own.slice (h : Own e k w base v n f) : ∃ a cap, v = .slice a n cap ∧ Reads k w a n f ∧ n ≤ cap ∧ cap ≤ maxLen ∧ (a = none → cap = 0) := by
  rcases h.form with ⟨rfl, rfl⟩ | ⟨g, cap, rfl, _, _, hn, hm⟩
  · exact ⟨none, 0, rfl, Reads.zero, Nat.le_refl _, by decide, fun _ => rfl⟩
  · exact ⟨_, cap, rfl, h.reads, hn, hm, fun h => by cases h⟩

/-- One place changed. -/
def upd (f : Nat → Nat) (i x : Nat) : Nat → Nat := fun j => if j = i then x else f j
theorem upd_same (f : Nat → Nat) (i x : Nat) : upd f i x i = x := by simp [upd]
theorem upd_other (f : Nat → Nat) (i x j : Nat) (h : j ≠ i) : upd f i x j = f j := by simp [upd, h]

theorem Own.set {g cap : Nat} (h : Own e k w base (.slice (some ⟨g, 0, none⟩) n cap) n f) (i x : Nat) :
    Own e k (w.setCell ⟨g, i, none⟩ (.int k x)) base (.slice (some ⟨g, 0, none⟩) n cap) n (upd f i x) := by
  have h1 := (World.ownsRow.stored h i (.int k x)).1
  have e1 : ((List.range n).map fun i => Value.int k (f i : Nat)).set i (.int k x) = (List.range n).map fun j => Value.int k (upd f i x j : Nat) := by
    apply List.ext_getElem?
    intro j
    by_cases hj : j < n
    · by_cases hij : i = j
      · subst hij
        simp [hj, upd]
      · rw [List.getElem?_set_ne hij]
        simp [hj, upd, Ne.symm hij]
    · have h2 : n ≤ j := by omega
      rw [List.getElem?_eq_none (by simpa using h2), List.getElem?_eq_none (by simpa using h2)]
  unfold Own
  rw [← e1]
  exact h1

theorem Own.lt (h : Own e k w base v n f) : ∀ b, v.ownBlock = some b → base ≤ b ∧ b < w.heap.size := World.ownsRow.lt h

/-- The block of such a value is as it was: it is still owned. -/
theorem Own.keep {w' : World} (h : Own e k w base v n f) (hb : ∀ b, v.ownBlock = some b → w'.heap[b]? = w.heap[b]?) : Own e k w' base v n f := by
  refine ⟨h.1, ?_⟩
  rcases h.2 with h0 | ⟨g, cap, cur, rfl, hg, hh, r⟩
  · exact .inl h0
  · exact .inr ⟨g, cap, cur, rfl, hg, by rw [hb g rfl]; exact hh, r⟩

theorem Own.below {w' : World} {B : Nat} (h : Own e k w base v n f) (hb : Below B w w') (hB : w.heap.size ≤ B) : Own e k w' base v n f :=
  h.keep fun b hv => hb.block b (by have := (h.lt b hv).2; omega)

theorem Own.mono {base' : Nat} (h : Own e k w base v n f) (hb : base' ≤ base) : Own e k w base' v n f := by
  refine ⟨h.1, ?_⟩
  rcases h.2 with h0 | ⟨g, cap, cur, rfl, hg, hh, r⟩
  · exact .inl h0
  · exact .inr ⟨g, cap, cur, rfl, Nat.le_trans hb hg, hh, r⟩

theorem Own.drewN (h : Own e k w base v n f) (m : Nat) : Own e k (w.drewN m) base v n f := h.keep fun _ _ => rfl

/-- A prefix. -/
theorem Own.less {a : Option Addr} {cap m : Nat} (h : Own e k w base (.slice a n cap) n f) (hm : m ≤ n) : Own e k w base (.slice a m cap) m f := by
  refine ⟨by simp, ?_⟩
  rcases h.2 with ⟨h0, rfl⟩ | ⟨g, c, cur, hv, hg, hh, hn, hc, hs, ht⟩
  · have : m = 0 := by omega
    subst this
    exact .inl ⟨h0, rfl⟩
  · cases hv
    refine .inr ⟨g, cap, cur, rfl, hg, hh, by omega, hc, hs, ?_⟩
    have e1 : List.take (m * 1) cur.toList = List.take (m * 1) (List.take (n * 1) cur.toList) := by
      rw [List.take_take]; congr 1; omega
    rw [e1, ht, ← List.map_take]
    congr 1
    rw [List.take_range]
    congr 1
    omega

theorem Own.setOther (h : Own e k w base v n f) {p : Addr} (hp : v.ownBlock ≠ some p.block) (u : Value) : Own e k (w.setCell p u) base v n f :=
  h.keep fun b hb => Below.heap_setCell _ _ _ _ (fun c => hp (by rw [hb, c]))

theorem Own.alloc (h : Own e k w base v n f) (o : Obj) : Own e k (w.alloc o) base v n f :=
  h.keep fun b hb => Below.heap_alloc _ _ _ (h.lt b hb).2
end

/-- 'make([]T, n)', n a variable: n zeros in a new block; nothing else has turned. -/
theorem wpList_make {P : Program} (w : World) {ops : Array Oper} {rest : List Oper} {o : Oper} {a : Act} {Q : Exit → Act → World → Prop}
    (hg : o.guard = none) (l c : Operand) (t : TypeId) (hop : o.op = Op.makeSlice t l c) (e : TypeId) (k : IntKind) (h1 : P.underlying t = some (.slice e))
    (h2 : (P.info? e).map (fun i => (i.zero, i.size, i.bytes)) = some (some (.int k 0), 1, 8)) (kl kc : IntKind) (L C : Int) (n : Nat) (hl : a.eval l = .int kl L) (hc : a.eval c = .int kc C) (hL : L = (n : Int)) (hC : C = (n : Int)) (hn : n ≤ 17592186044416)
    (H : Nat) (hH : w.heap.size = H)
    (hK : ∀ w1, Own e k w1 H (.slice (some ⟨H, 0, none⟩) n n) n (fun _ => 0) → Below H w w1 → Grown w w1 → w1.heap.size = H + 1 → wpList P ops Q rest (a.put o.dst (.slice (some ⟨H, 0, none⟩) n n)) w1) :
    wpList P ops Q (o :: rest) a w := by
  subst hH
  refine wpList_plain hg fun K hK' => ?_
  subst hL
  subst hC
  obtain ⟨i0, hi, hz0, hz1, hz2⟩ := info_parts h2
  have hr := run_make (P := P) w t e i0 (.int k 0) h1 hi hz0 kl kc n n (by omega) (Int.le_refl _) (by rw [hz2]; omega) (by omega)
  simp only [Int.toNat_natCast, hz1] at hr
  unfold Oper.wp
  simp [execOp, hop, hl, hc, hr, Result.andThen]
  refine hK' _ _ (hK _ (Own.made ?_) ((Below.refl _ _).alloc (Nat.le_refl _) _) ((Grown.refl _).alloc _ _) (by simp))
  have h := World.ownsRow_lit (base := w.heap.size) (e := e) (size := 1) w (madeCells (Value.int k 0).cells (n * 1)) n (Nat.le_refl _) (by unfold maxLen; omega) (size_madeCells _ _)
  simp only [Nat.mul_one] at h ⊢
  exact h

/-- The first k places as f says, nothing behind them. -/
def upto (f : Nat → Nat) (k : Nat) : Nat → Nat := fun j => if j < k then f j else 0
theorem upto_zero (f : Nat → Nat) : upto f 0 = fun _ => 0 := by funext j; simp [upto]
theorem upto_succ (f : Nat → Nat) (k : Nat) : upd (upto f k) k (f k) = upto f (k + 1) := by
  funext j
  unfold upd upto
  by_cases h : j = k
  · subst h; simp
  · by_cases h2 : j < k
    · rw [if_neg h, if_pos h2, if_pos (by omega)]
    · rw [if_neg h, if_neg h2, if_neg (by omega)]
theorem upto_all {f : Nat → Nat} {n : Nat} (h : ∀ i, n ≤ i → f i = 0) : upto f n = f := by
  funext j
  unfold upto
  by_cases h2 : j < n
  · rw [if_pos h2]
  · rw [if_neg h2, h j (by omega)]
theorem upto_lt {f : Nat → Nat} (h : Fit64 f) (k : Nat) : Fit64 (upto f k) := fun i => by
  unfold upto
  split
  · exact h i
  · omega

theorem Below.of_grown {w w' : World} {row : Option Nat} {B : Nat} (hg : w.grownBy w' row) (hB : B ≤ w.heap.size) (hr : ∀ k, row = some k → B ≤ k) : Below B w w' :=
  (Below.refl B w).grown hg hB hr

end Go.Proofs.Ymbrcu
