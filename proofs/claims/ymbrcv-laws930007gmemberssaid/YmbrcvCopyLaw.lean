/-
  'copy(dst, src)' OVER A WHOLE SLICE THAT THE CALL HAS MADE, from a slice of the same length.
-/
import Derived.Test.YmbrcvBits
import Derived.Laws.CopyOwn
namespace Go.Proofs.Ymbrcv
open Go.RowKit
set_option linter.unusedVariables false

theorem Own.heapFull {e : TypeId} {k : IntKind} {w : World} {base g n : Nat} {f : Nat → Nat} (h : Own e k w base (.slice (some ⟨g, 0, none⟩) n n) n f) :
    w.heap[g]? = some (.cells ((List.range n).map fun i => Value.int k (f i : Nat)).toArray e (0, 0)) ∧ base ≤ g ∧ n ≤ maxLen := by
  rcases h.2 with ⟨h0, _⟩ | ⟨g', cap, cur, hv, hb, hg, hn, hm, hs, ht⟩
  · simp at h0
  · simp only [Value.slice.injEq, Option.some.injEq, Addr.mk.injEq, and_true, true_and] at hv
    obtain ⟨rfl, rfl⟩ := hv
    refine ⟨?_, hb, hm⟩
    rw [hg]
    have e1 : cur.toList.take (n * 1) = cur.toList := List.take_of_length_le (by rw [Array.length_toList, hs]; exact Nat.le_refl _)
    rw [e1] at ht
    rw [← ht]

theorem Own.ofHeap {e : TypeId} {k : IntKind} {w : World} {base g n : Nat} {f : Nat → Nat} (h : w.heap[g]? = some (.cells ((List.range n).map fun i => Value.int k (f i : Nat)).toArray e (0, 0))) (hb : base ≤ g) (hn : n ≤ maxLen) :
    Own e k w base (.slice (some ⟨g, 0, none⟩) n n) n f := by
  refine ⟨by simp, .inr ⟨g, n, _, rfl, hb, h, Nat.le_refl _, hn, by simp, ?_⟩⟩
  apply List.take_of_length_le
  simp

theorem wpList_copy_full {P : Program} {w : World} {ops : Array Oper} {rest : List Oper} {o : Oper} {a : Act} {Q : Exit → Act → World → Prop} (hgd : o.guard = none) (d s : Operand) (t : TypeId)
    (ho : o.op = .call { callee := .builtin .copy, args := #[d, s], argTypes := #[t, t] }) (e : TypeId) (k : IntKind) (hu : P.underlying t = some (.slice e)) (hsz : (P.info? e).map (·.size) = some 1)
    (g n : Nat) (sp : Option Addr) (sCap : Nat) (hd : a.eval d = .slice (some ⟨g, 0, none⟩) n n) (hs : a.eval s = .slice sp n sCap) (base : Nat) (f0 f : Nat → Nat)
    (hown : Own e k w base (.slice (some ⟨g, 0, none⟩) n n) n f0) (hr : Reads k w sp n f)
    (h : ∀ w', Own e k w' base (.slice (some ⟨g, 0, none⟩) n n) n f → Below g w w' → wpList P ops Q rest (a.put o.dst (goInt n)) w') : wpList P ops Q (o :: rest) a w := by
  obtain ⟨hh, hb, hm⟩ := hown.heapFull
  have hl : ((List.range n).map fun i => Value.int k (f i : Nat)).length = n := by simp
  have key := wpList_copy_splice (P := P) (w := w) (ops := ops) (rest := rest) (o := o) (a := a) (Q := Q) hgd d s t t ho e hu hsz (some ⟨g, 0, none⟩) sp n n n sCap hd hs g 0 _ e hh ((List.range n).map fun i => Value.int k (f i : Nat)) (by rw [hl]; exact (Nat.min_self n).symm)
    (fun hpos => by
      refine ⟨rfl, ?_⟩
      rw [hl] at hpos
      obtain ⟨b, off, rfl, hc⟩ := hr.at hpos
      refine ⟨_, rfl, fun j v hj => ?_⟩
      have hjn : j < n := by
        rcases Nat.lt_or_ge j n with c | c
        · exact c
        · rw [List.getElem?_eq_none (by simpa using c)] at hj; cases hj
      have ea : (⟨b, off, none⟩ : Addr).add j = ⟨b, off + j, none⟩ := by unfold Addr.add; split <;> simp_all
      rw [ea, hc j hjn]
      simpa [hjn] using hj)
    (by simp) (by intro v hv; simp only [List.mem_map] at hv; obtain ⟨i, _, rfl⟩ := hv; rfl) g w (Below.refl _ _) (Nat.le_refl _)
  refine key fun w' hw hbel => ?_
  rw [hl]
  refine h w' (Own.ofHeap ?_ hb hm) hbel
  have e1 : splice ((List.range n).map fun i => Value.int k (f0 i : Nat)) 0 ((List.range n).map fun i => Value.int k (f i : Nat)) = (List.range n).map fun i => Value.int k (f i : Nat) := by
    unfold splice
    rw [hl, List.take_zero, Nat.zero_add, List.drop_of_length_le (by simp)]
    simp
  rw [← e1]
  exact hw.out

theorem size_u64 : (Ycvm.prog.info? 33).map (·.size) = some 1 := by kernel_rfl

end Go.Proofs.Ymbrcv
