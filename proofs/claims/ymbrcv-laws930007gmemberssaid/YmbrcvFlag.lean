/-
  A LOCAL ARRAY OF FLAGS: 'var seen [n]bool', laid as a new block of n cells, each false.
-/
import Derived.Test.YmbrcvOwn
import Derived.Deep.OwnRows
namespace Go.Proofs.Ymbrcv
open Go.RowKit
set_option linter.unusedVariables false

/-- Block g holds n flags, flag i being 'f i'; none frozen. -/
def Flags (t : TypeId) (w : World) (g n : Nat) (f : Nat → Bool) : Prop := w.rowIs g t n fun i => .bool (f i)

section
variable {t : TypeId} {w w' : World} {g n : Nat} {f f' : Nat → Bool}
theorem Flags.cell (h : Flags t w g n f) (i : Nat) (hi : i < n) : w.cell? ⟨g, i, none⟩ = some (.bool (f i)) := World.rowIs.cell h hi
theorem Flags.frozen (h : Flags t w g n f) (i : Nat) : w.frozen? ⟨g, i, none⟩ = false := World.rowIs.frozen h i
theorem Flags.lt (h : Flags t w g n f) : g < w.heap.size := World.rowIs.lt h
theorem Flags.congr (h : Flags t w g n f) (e : ∀ i, i < n → f i = f' i) : Flags t w g n f' := World.rowIs.congr h fun i hi => by rw [e i hi]
theorem Flags.below {B : Nat} (h : Flags t w g n f) (hb : Below B w w') (hg : g < B) : Flags t w' g n f := World.rowIs.of_block h (hb.block g hg)
theorem Flags.set (h : Flags t w g n f) (i : Nat) : Flags t (w.setCell ⟨g, i, none⟩ (.bool true)) g n fun j => f j || j == i :=
  World.rowIs.congr (World.rowIs.set h i (.bool true)) fun j _ => by
    by_cases e : j = i
    · simp [e]
    · simp [e]
theorem Flags.other (h : Flags t w g n f) {a : Addr} (ha : g ≠ a.block) (v : Value) : Flags t (w.setCell a v) g n f := World.rowIs.setOther h ha v
theorem Flags.drew (h : Flags t w g n f) : Flags t w.drew g n f := h
theorem Flags.alloc (h : Flags t w g n f) (o : Obj) : Flags t (w.alloc o) g n f := World.rowIs.alloc h o
end

theorem wpList_flags {P : Program} (w : World) {ops : Array Oper} {rest : List Oper} {o : Oper} {a : Act} {Q : Exit → Act → World → Prop}
    (hg : o.guard = none) (t : TypeId) (hop : o.op = Op.alloc t) (n : Nat) (h2 : (P.info? t).map (fun i => i.zero) = some (some (.agg (Array.replicate n (.bool false)))))
    (H : Nat) (hH : w.heap.size = H)
    (hK : ∀ w1, Flags t w1 H n (fun _ => false) → Below H w w1 → w1.heap.size = H + 1 → wpList P ops Q rest (a.put o.dst (.pointer (some ⟨H, 0, none⟩))) w1) :
    wpList P ops Q (o :: rest) a w := by
  subst hH
  refine wpList_plain hg fun K hK' => ?_
  have hz : (zeroValue t).run P w = .ok (.agg (Array.replicate n (.bool false))) w := by
    cases hi : P.info? t with
    | none => rw [hi] at h2; cases h2
    | some i =>
      rw [hi] at h2
      simp only [Option.map_some, Option.some.injEq] at h2
      unfold zeroValue typeInfo
      simp [hi, h2]
  have hr : (Instr.alloc t true (.tuple #[])).run P w = .ok (.pointer (some ⟨w.heap.size, 0, none⟩)) (w.alloc (.cells (Array.replicate n (.bool false)) t)) := by
    unfold Instr.alloc
    simp [hz, Result.andThen, newVar, newRow, Value.cells]
  unfold Oper.wp
  simp [execOp, hop, hr, Result.andThen]
  refine hK' _ _ (hK _ ?_ ((Below.refl _ _).alloc (Nat.le_refl _) _) (by simp))
  have h := World.rowIs_alloc w (Array.replicate n (.bool false)) t (fun _ => .bool false) (fun i hi => by simp at hi; simp [hi])
  simp only [Array.size_replicate] at h
  exact h

end Go.Proofs.Ymbrcv
