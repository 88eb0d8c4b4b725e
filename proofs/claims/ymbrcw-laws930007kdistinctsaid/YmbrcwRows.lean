/-
  No cell of these rows narrows 'for every input' (looked for: loops, veiled, ifaces, maps, wideKeys, modest, calm, conditions, laid).
  DERIVED. THE GIVEN ROWS OF THIS SEAT. 12 by the template 'for every input the law returns true; each argument reads behind the call as it read before'; 0 by the template 'total and deterministic' (their statements: YmbrcwTotals.lean).
  GIVEN WITH THE SEED: the statements are not yours to turn. If you find one false, say at which input.
  Laid BY PROGRAM, IN A SANDBOX (cutbox-rows.mjs): the forced cells as the released guide's own fill.sh prints them over the translation 617e0a0adb82ac38… (all of the seat's roots in one cut). By AI agents, Wed Nov 11 2026. No macro, syntax, notation, axiom, sorry.
-/
import Derived.Test.YmbrcwChecked
import GoSem.Claim
import GoSem.ClaimJoined
import GoSem.ClaimMapViews
import Derived.JoinedTies
import Derived.KernelRfl
namespace Go.Proofs.Ymbrcw
/- THE CELL 'sum', in the pinned program and in every row, IS THE sha256 OF THE DUMP (.gsa) THAT YmbrcwProg.lean LOADS. Nothing in Lean hashes anything: it is a label: what it is worth is what the hold of that sum in a sandbox is worth. -/
noncomputable def Ycwm.pinned : Pinned := { name := "ymbrcw", sum := "617e0a0adb82ac38e20693848883dc4f7cb063535fd9e8b515fd2a94787af8af", checked := Ycwm.checked }
namespace Rows
def none {H : Type} : Left H := { results := [], args := [] }

/-- 'bitset.LawS930007ICount': WHATEVER THE INPUT: true; the input reads as it did. -/
def lawS930007ICountSpec : ChangeSpec := { name := "lawS930007ICount", fn := fun _ => fun
  | [d1, d2] => { results := [.lit (.bool true)], args := [d1, d2] }
  | _ => none }
def lawS930007ICountRow : OpenClaim := { program := "ymbrcw", sum := "617e0a0adb82ac38e20693848883dc4f7cb063535fd9e8b515fd2a94787af8af", func := "example.com/own/bitset.LawS930007ICount", spec := "lawS930007ICount", apart := false }
def LawS930007ICountSaid : Prop := lawS930007ICountRow.holds Ycwm.pinned (OpenSpec.ofChange lawS930007ICountSpec)

/-- ITS FALSE NEIGHBOUR: 'it returns false'. Refute it at one input. -/
def lawS930007ICountWrong : ChangeSpec := { name := "lawS930007ICount", fn := fun _ => fun
  | [d1, d2] => { results := [.lit (.bool false)], args := [d1, d2] }
  | _ => none }
def LawS930007ICountWrongFalsely : Prop := lawS930007ICountRow.holds Ycwm.pinned (OpenSpec.ofChange lawS930007ICountWrong)

/-- 'bitset.LawS930007IElems': WHATEVER THE INPUT: true; the input reads as it did. -/
def lawS930007IElemsSpec : ChangeSpec := { name := "lawS930007IElems", fn := fun _ => fun
  | [d1, d2] => { results := [.lit (.bool true)], args := [d1, d2] }
  | _ => none }
def lawS930007IElemsRow : OpenClaim := { program := "ymbrcw", sum := "617e0a0adb82ac38e20693848883dc4f7cb063535fd9e8b515fd2a94787af8af", func := "example.com/own/bitset.LawS930007IElems", spec := "lawS930007IElems", apart := false }
def LawS930007IElemsSaid : Prop := lawS930007IElemsRow.holds Ycwm.pinned (OpenSpec.ofChange lawS930007IElemsSpec)

/-- ITS FALSE NEIGHBOUR: 'it returns false'. Refute it at one input. -/
def lawS930007IElemsWrong : ChangeSpec := { name := "lawS930007IElems", fn := fun _ => fun
  | [d1, d2] => { results := [.lit (.bool false)], args := [d1, d2] }
  | _ => none }
def LawS930007IElemsWrongFalsely : Prop := lawS930007IElemsRow.holds Ycwm.pinned (OpenSpec.ofChange lawS930007IElemsWrong)

/-- 'bitset.LawS930007IStep': WHATEVER THE INPUT: true; the input reads as it did. -/
def lawS930007IStepSpec : ChangeSpec := { name := "lawS930007IStep", fn := fun _ => fun
  | [d1, d2, d3] => { results := [.lit (.bool true)], args := [d1, d2, d3] }
  | _ => none }
def lawS930007IStepRow : OpenClaim := { program := "ymbrcw", sum := "617e0a0adb82ac38e20693848883dc4f7cb063535fd9e8b515fd2a94787af8af", func := "example.com/own/bitset.LawS930007IStep", spec := "lawS930007IStep", apart := false }
def LawS930007IStepSaid : Prop := lawS930007IStepRow.holds Ycwm.pinned (OpenSpec.ofChange lawS930007IStepSpec)

/-- ITS FALSE NEIGHBOUR: 'it returns false'. Refute it at one input. -/
def lawS930007IStepWrong : ChangeSpec := { name := "lawS930007IStep", fn := fun _ => fun
  | [d1, d2, d3] => { results := [.lit (.bool false)], args := [d1, d2, d3] }
  | _ => none }
def LawS930007IStepWrongFalsely : Prop := lawS930007IStepRow.holds Ycwm.pinned (OpenSpec.ofChange lawS930007IStepWrong)

/-- 'bitset.LawS930007JExact': WHATEVER THE INPUT: true; the input reads as it did. -/
def lawS930007JExactSpec : ChangeSpec := { name := "lawS930007JExact", fn := fun _ => fun
  | [d] => { results := [.lit (.bool true)], args := [d] }
  | _ => none }
def lawS930007JExactRow : OpenClaim := { program := "ymbrcw", sum := "617e0a0adb82ac38e20693848883dc4f7cb063535fd9e8b515fd2a94787af8af", func := "example.com/own/bitset.LawS930007JExact", spec := "lawS930007JExact", apart := false }
def LawS930007JExactSaid : Prop := lawS930007JExactRow.holds Ycwm.pinned (OpenSpec.ofChange lawS930007JExactSpec)

/-- ITS FALSE NEIGHBOUR: 'it returns false'. Refute it at one input. -/
def lawS930007JExactWrong : ChangeSpec := { name := "lawS930007JExact", fn := fun _ => fun
  | [d] => { results := [.lit (.bool false)], args := [d] }
  | _ => none }
def LawS930007JExactWrongFalsely : Prop := lawS930007JExactRow.holds Ycwm.pinned (OpenSpec.ofChange lawS930007JExactWrong)

/-- 'bitset.LawS930007JBuilt': WHATEVER THE INPUT: true; the input reads as it did. -/
def lawS930007JBuiltSpec : ChangeSpec := { name := "lawS930007JBuilt", fn := fun _ => fun
  | [d1, d2] => { results := [.lit (.bool true)], args := [d1, d2] }
  | _ => none }
def lawS930007JBuiltRow : OpenClaim := { program := "ymbrcw", sum := "617e0a0adb82ac38e20693848883dc4f7cb063535fd9e8b515fd2a94787af8af", func := "example.com/own/bitset.LawS930007JBuilt", spec := "lawS930007JBuilt", apart := false }
def LawS930007JBuiltSaid : Prop := lawS930007JBuiltRow.holds Ycwm.pinned (OpenSpec.ofChange lawS930007JBuiltSpec)

/-- ITS FALSE NEIGHBOUR: 'it returns false'. Refute it at one input. -/
def lawS930007JBuiltWrong : ChangeSpec := { name := "lawS930007JBuilt", fn := fun _ => fun
  | [d1, d2] => { results := [.lit (.bool false)], args := [d1, d2] }
  | _ => none }
def LawS930007JBuiltWrongFalsely : Prop := lawS930007JBuiltRow.holds Ycwm.pinned (OpenSpec.ofChange lawS930007JBuiltWrong)

/-- 'bitset.LawS930007JShift': WHATEVER THE INPUT: true; the input reads as it did. -/
def lawS930007JShiftSpec : ChangeSpec := { name := "lawS930007JShift", fn := fun _ => fun
  | [d1, d2] => { results := [.lit (.bool true)], args := [d1, d2] }
  | _ => none }
def lawS930007JShiftRow : OpenClaim := { program := "ymbrcw", sum := "617e0a0adb82ac38e20693848883dc4f7cb063535fd9e8b515fd2a94787af8af", func := "example.com/own/bitset.LawS930007JShift", spec := "lawS930007JShift", apart := false }
def LawS930007JShiftSaid : Prop := lawS930007JShiftRow.holds Ycwm.pinned (OpenSpec.ofChange lawS930007JShiftSpec)

/-- ITS FALSE NEIGHBOUR: 'it returns false'. Refute it at one input. -/
def lawS930007JShiftWrong : ChangeSpec := { name := "lawS930007JShift", fn := fun _ => fun
  | [d1, d2] => { results := [.lit (.bool false)], args := [d1, d2] }
  | _ => none }
def LawS930007JShiftWrongFalsely : Prop := lawS930007JShiftRow.holds Ycwm.pinned (OpenSpec.ofChange lawS930007JShiftWrong)

/-- 'bitset.LawS930007KBitByBit': WHATEVER THE INPUT: true; the input reads as it did. -/
def lawS930007KBitByBitSpec : ChangeSpec := { name := "lawS930007KBitByBit", fn := fun _ => fun
  | [d] => { results := [.lit (.bool true)], args := [d] }
  | _ => none }
def lawS930007KBitByBitRow : OpenClaim := { program := "ymbrcw", sum := "617e0a0adb82ac38e20693848883dc4f7cb063535fd9e8b515fd2a94787af8af", func := "example.com/own/bitset.LawS930007KBitByBit", spec := "lawS930007KBitByBit", apart := false }
def LawS930007KBitByBitSaid : Prop := lawS930007KBitByBitRow.holds Ycwm.pinned (OpenSpec.ofChange lawS930007KBitByBitSpec)

/-- ITS FALSE NEIGHBOUR: 'it returns false'. Refute it at one input. -/
def lawS930007KBitByBitWrong : ChangeSpec := { name := "lawS930007KBitByBit", fn := fun _ => fun
  | [d] => { results := [.lit (.bool false)], args := [d] }
  | _ => none }
def LawS930007KBitByBitWrongFalsely : Prop := lawS930007KBitByBitRow.holds Ycwm.pinned (OpenSpec.ofChange lawS930007KBitByBitWrong)

/-- 'bitset.LawS930007KDistinct': WHATEVER THE INPUT: true; the input reads as it did. -/
def lawS930007KDistinctSpec : ChangeSpec := { name := "lawS930007KDistinct", fn := fun _ => fun
  | [d] => { results := [.lit (.bool true)], args := [d] }
  | _ => none }
def lawS930007KDistinctRow : OpenClaim := { program := "ymbrcw", sum := "617e0a0adb82ac38e20693848883dc4f7cb063535fd9e8b515fd2a94787af8af", func := "example.com/own/bitset.LawS930007KDistinct", spec := "lawS930007KDistinct", apart := false }
def LawS930007KDistinctSaid : Prop := lawS930007KDistinctRow.holds Ycwm.pinned (OpenSpec.ofChange lawS930007KDistinctSpec)

/-- ITS FALSE NEIGHBOUR: 'it returns false'. Refute it at one input. -/
def lawS930007KDistinctWrong : ChangeSpec := { name := "lawS930007KDistinct", fn := fun _ => fun
  | [d] => { results := [.lit (.bool false)], args := [d] }
  | _ => none }
def LawS930007KDistinctWrongFalsely : Prop := lawS930007KDistinctRow.holds Ycwm.pinned (OpenSpec.ofChange lawS930007KDistinctWrong)

/-- 'bitset.LawS930007KSetStep': WHATEVER THE INPUT: true; the input reads as it did. -/
def lawS930007KSetStepSpec : ChangeSpec := { name := "lawS930007KSetStep", fn := fun _ => fun
  | [d1, d2] => { results := [.lit (.bool true)], args := [d1, d2] }
  | _ => none }
def lawS930007KSetStepRow : OpenClaim := { program := "ymbrcw", sum := "617e0a0adb82ac38e20693848883dc4f7cb063535fd9e8b515fd2a94787af8af", func := "example.com/own/bitset.LawS930007KSetStep", spec := "lawS930007KSetStep", apart := false }
def LawS930007KSetStepSaid : Prop := lawS930007KSetStepRow.holds Ycwm.pinned (OpenSpec.ofChange lawS930007KSetStepSpec)

/-- ITS FALSE NEIGHBOUR: 'it returns false'. Refute it at one input. -/
def lawS930007KSetStepWrong : ChangeSpec := { name := "lawS930007KSetStep", fn := fun _ => fun
  | [d1, d2] => { results := [.lit (.bool false)], args := [d1, d2] }
  | _ => none }
def LawS930007KSetStepWrongFalsely : Prop := lawS930007KSetStepRow.holds Ycwm.pinned (OpenSpec.ofChange lawS930007KSetStepWrong)

/-- 'bitset.LawS930007LElems': WHATEVER THE INPUT: true; the input reads as it did. -/
def lawS930007LElemsSpec : ChangeSpec := { name := "lawS930007LElems", fn := fun _ => fun
  | [d1, d2] => { results := [.lit (.bool true)], args := [d1, d2] }
  | _ => none }
def lawS930007LElemsRow : OpenClaim := { program := "ymbrcw", sum := "617e0a0adb82ac38e20693848883dc4f7cb063535fd9e8b515fd2a94787af8af", func := "example.com/own/bitset.LawS930007LElems", spec := "lawS930007LElems", apart := false }
def LawS930007LElemsSaid : Prop := lawS930007LElemsRow.holds Ycwm.pinned (OpenSpec.ofChange lawS930007LElemsSpec)

/-- ITS FALSE NEIGHBOUR: 'it returns false'. Refute it at one input. -/
def lawS930007LElemsWrong : ChangeSpec := { name := "lawS930007LElems", fn := fun _ => fun
  | [d1, d2] => { results := [.lit (.bool false)], args := [d1, d2] }
  | _ => none }
def LawS930007LElemsWrongFalsely : Prop := lawS930007LElemsRow.holds Ycwm.pinned (OpenSpec.ofChange lawS930007LElemsWrong)

/-- 'bitset.LawS930007LExtra': WHATEVER THE INPUT: true; the input reads as it did. -/
def lawS930007LExtraSpec : ChangeSpec := { name := "lawS930007LExtra", fn := fun _ => fun
  | [d1, d2] => { results := [.lit (.bool true)], args := [d1, d2] }
  | _ => none }
def lawS930007LExtraRow : OpenClaim := { program := "ymbrcw", sum := "617e0a0adb82ac38e20693848883dc4f7cb063535fd9e8b515fd2a94787af8af", func := "example.com/own/bitset.LawS930007LExtra", spec := "lawS930007LExtra", apart := false }
def LawS930007LExtraSaid : Prop := lawS930007LExtraRow.holds Ycwm.pinned (OpenSpec.ofChange lawS930007LExtraSpec)

/-- ITS FALSE NEIGHBOUR: 'it returns false'. Refute it at one input. -/
def lawS930007LExtraWrong : ChangeSpec := { name := "lawS930007LExtra", fn := fun _ => fun
  | [d1, d2] => { results := [.lit (.bool false)], args := [d1, d2] }
  | _ => none }
def LawS930007LExtraWrongFalsely : Prop := lawS930007LExtraRow.holds Ycwm.pinned (OpenSpec.ofChange lawS930007LExtraWrong)

/-- 'bitset.LawS930007LWord': WHATEVER THE INPUT: true; the input reads as it did. -/
def lawS930007LWordSpec : ChangeSpec := { name := "lawS930007LWord", fn := fun _ => fun
  | [d1, d2, d3, d4] => { results := [.lit (.bool true)], args := [d1, d2, d3, d4] }
  | _ => none }
def lawS930007LWordRow : OpenClaim := { program := "ymbrcw", sum := "617e0a0adb82ac38e20693848883dc4f7cb063535fd9e8b515fd2a94787af8af", func := "example.com/own/bitset.LawS930007LWord", spec := "lawS930007LWord", apart := false }
def LawS930007LWordSaid : Prop := lawS930007LWordRow.holds Ycwm.pinned (OpenSpec.ofChange lawS930007LWordSpec)

/-- ITS FALSE NEIGHBOUR: 'it returns false'. Refute it at one input. -/
def lawS930007LWordWrong : ChangeSpec := { name := "lawS930007LWord", fn := fun _ => fun
  | [d1, d2, d3, d4] => { results := [.lit (.bool false)], args := [d1, d2, d3, d4] }
  | _ => none }
def LawS930007LWordWrongFalsely : Prop := lawS930007LWordRow.holds Ycwm.pinned (OpenSpec.ofChange lawS930007LWordWrong)

end Rows
end Go.Proofs.Ymbrcw
