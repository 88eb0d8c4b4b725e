/-
  No cell of these rows narrows 'for every input' (looked for: loops, veiled, ifaces, maps, wideKeys, modest, calm, conditions, laid).
  DERIVED. THE GIVEN ROWS OF THIS SEAT. 12 by the template 'for every input the law returns true; each argument reads behind the call as it read before'; 0 by the template 'total and deterministic' (their statements: YmbrcvTotals.lean).
  GIVEN WITH THE SEED: the statements are not yours to turn. If you find one false, say at which input.
  Laid BY PROGRAM, IN A SANDBOX (cutbox-rows.mjs): the forced cells as the released guide's own fill.sh prints them over the translation fe7e35c47bee96b5… (all of the seat's roots in one cut). By AI agents, Wed Nov 11 2026. No macro, syntax, notation, axiom, sorry.
-/
import Derived.Test.YmbrcvChecked
import GoSem.Claim
import GoSem.ClaimJoined
import GoSem.ClaimMapViews
import Derived.JoinedTies
import Derived.KernelRfl
namespace Go.Proofs.Ymbrcv
/- THE CELL 'sum', in the pinned program and in every row, IS THE sha256 OF THE DUMP (.gsa) THAT YmbrcvProg.lean LOADS. Nothing in Lean hashes anything: it is a label: what it is worth is what the hold of that sum in a sandbox is worth. -/
noncomputable def Ycvm.pinned : Pinned := { name := "ymbrcv", sum := "fe7e35c47bee96b591ee9416654ca2818773fe2abcec5067b2978d08133b779e", checked := Ycvm.checked }
namespace Rows
def none {H : Type} : Left H := { results := [], args := [] }

/-- 'bitset.LawS930007EMember': WHATEVER THE INPUT: true; the input reads as it did. -/
def lawS930007EMemberSpec : ChangeSpec := { name := "lawS930007EMember", fn := fun _ => fun
  | [d1, d2] => { results := [.lit (.bool true)], args := [d1, d2] }
  | _ => none }
def lawS930007EMemberRow : OpenClaim := { program := "ymbrcv", sum := "fe7e35c47bee96b591ee9416654ca2818773fe2abcec5067b2978d08133b779e", func := "example.com/own/bitset.LawS930007EMember", spec := "lawS930007EMember", apart := false }
def LawS930007EMemberSaid : Prop := lawS930007EMemberRow.holds Ycvm.pinned (OpenSpec.ofChange lawS930007EMemberSpec)

/-- ITS FALSE NEIGHBOUR: 'it returns false'. Refute it at one input. -/
def lawS930007EMemberWrong : ChangeSpec := { name := "lawS930007EMember", fn := fun _ => fun
  | [d1, d2] => { results := [.lit (.bool false)], args := [d1, d2] }
  | _ => none }
def LawS930007EMemberWrongFalsely : Prop := lawS930007EMemberRow.holds Ycvm.pinned (OpenSpec.ofChange lawS930007EMemberWrong)

/-- 'bitset.LawS930007EWords': WHATEVER THE INPUT: true; the input reads as it did. -/
def lawS930007EWordsSpec : ChangeSpec := { name := "lawS930007EWords", fn := fun _ => fun
  | [d] => { results := [.lit (.bool true)], args := [d] }
  | _ => none }
def lawS930007EWordsRow : OpenClaim := { program := "ymbrcv", sum := "fe7e35c47bee96b591ee9416654ca2818773fe2abcec5067b2978d08133b779e", func := "example.com/own/bitset.LawS930007EWords", spec := "lawS930007EWords", apart := false }
def LawS930007EWordsSaid : Prop := lawS930007EWordsRow.holds Ycvm.pinned (OpenSpec.ofChange lawS930007EWordsSpec)

/-- ITS FALSE NEIGHBOUR: 'it returns false'. Refute it at one input. -/
def lawS930007EWordsWrong : ChangeSpec := { name := "lawS930007EWords", fn := fun _ => fun
  | [d] => { results := [.lit (.bool false)], args := [d] }
  | _ => none }
def LawS930007EWordsWrongFalsely : Prop := lawS930007EWordsRow.holds Ycvm.pinned (OpenSpec.ofChange lawS930007EWordsWrong)

/-- 'bitset.LawS930007EOrder': WHATEVER THE INPUT: true; the input reads as it did. -/
def lawS930007EOrderSpec : ChangeSpec := { name := "lawS930007EOrder", fn := fun _ => fun
  | [d] => { results := [.lit (.bool true)], args := [d] }
  | _ => none }
def lawS930007EOrderRow : OpenClaim := { program := "ymbrcv", sum := "fe7e35c47bee96b591ee9416654ca2818773fe2abcec5067b2978d08133b779e", func := "example.com/own/bitset.LawS930007EOrder", spec := "lawS930007EOrder", apart := false }
def LawS930007EOrderSaid : Prop := lawS930007EOrderRow.holds Ycvm.pinned (OpenSpec.ofChange lawS930007EOrderSpec)

/-- ITS FALSE NEIGHBOUR: 'it returns false'. Refute it at one input. -/
def lawS930007EOrderWrong : ChangeSpec := { name := "lawS930007EOrder", fn := fun _ => fun
  | [d] => { results := [.lit (.bool false)], args := [d] }
  | _ => none }
def LawS930007EOrderWrongFalsely : Prop := lawS930007EOrderRow.holds Ycvm.pinned (OpenSpec.ofChange lawS930007EOrderWrong)

/-- 'bitset.LawS930007FExact': WHATEVER THE INPUT: true; the input reads as it did. -/
def lawS930007FExactSpec : ChangeSpec := { name := "lawS930007FExact", fn := fun _ => fun
  | [d] => { results := [.lit (.bool true)], args := [d] }
  | _ => none }
def lawS930007FExactRow : OpenClaim := { program := "ymbrcv", sum := "fe7e35c47bee96b591ee9416654ca2818773fe2abcec5067b2978d08133b779e", func := "example.com/own/bitset.LawS930007FExact", spec := "lawS930007FExact", apart := false }
def LawS930007FExactSaid : Prop := lawS930007FExactRow.holds Ycvm.pinned (OpenSpec.ofChange lawS930007FExactSpec)

/-- ITS FALSE NEIGHBOUR: 'it returns false'. Refute it at one input. -/
def lawS930007FExactWrong : ChangeSpec := { name := "lawS930007FExact", fn := fun _ => fun
  | [d] => { results := [.lit (.bool false)], args := [d] }
  | _ => none }
def LawS930007FExactWrongFalsely : Prop := lawS930007FExactRow.holds Ycvm.pinned (OpenSpec.ofChange lawS930007FExactWrong)

/-- 'bitset.LawS930007FComplement': WHATEVER THE INPUT: true; the input reads as it did. -/
def lawS930007FComplementSpec : ChangeSpec := { name := "lawS930007FComplement", fn := fun _ => fun
  | [d] => { results := [.lit (.bool true)], args := [d] }
  | _ => none }
def lawS930007FComplementRow : OpenClaim := { program := "ymbrcv", sum := "fe7e35c47bee96b591ee9416654ca2818773fe2abcec5067b2978d08133b779e", func := "example.com/own/bitset.LawS930007FComplement", spec := "lawS930007FComplement", apart := false }
def LawS930007FComplementSaid : Prop := lawS930007FComplementRow.holds Ycvm.pinned (OpenSpec.ofChange lawS930007FComplementSpec)

/-- ITS FALSE NEIGHBOUR: 'it returns false'. Refute it at one input. -/
def lawS930007FComplementWrong : ChangeSpec := { name := "lawS930007FComplement", fn := fun _ => fun
  | [d] => { results := [.lit (.bool false)], args := [d] }
  | _ => none }
def LawS930007FComplementWrongFalsely : Prop := lawS930007FComplementRow.holds Ycvm.pinned (OpenSpec.ofChange lawS930007FComplementWrong)

/-- 'bitset.LawS930007FUnion': WHATEVER THE INPUT: true; the input reads as it did. -/
def lawS930007FUnionSpec : ChangeSpec := { name := "lawS930007FUnion", fn := fun _ => fun
  | [d1, d2] => { results := [.lit (.bool true)], args := [d1, d2] }
  | _ => none }
def lawS930007FUnionRow : OpenClaim := { program := "ymbrcv", sum := "fe7e35c47bee96b591ee9416654ca2818773fe2abcec5067b2978d08133b779e", func := "example.com/own/bitset.LawS930007FUnion", spec := "lawS930007FUnion", apart := false }
def LawS930007FUnionSaid : Prop := lawS930007FUnionRow.holds Ycvm.pinned (OpenSpec.ofChange lawS930007FUnionSpec)

/-- ITS FALSE NEIGHBOUR: 'it returns false'. Refute it at one input. -/
def lawS930007FUnionWrong : ChangeSpec := { name := "lawS930007FUnion", fn := fun _ => fun
  | [d1, d2] => { results := [.lit (.bool false)], args := [d1, d2] }
  | _ => none }
def LawS930007FUnionWrongFalsely : Prop := lawS930007FUnionRow.holds Ycvm.pinned (OpenSpec.ofChange lawS930007FUnionWrong)

/-- 'bitset.LawS930007GWords': WHATEVER THE INPUT: true; the input reads as it did. -/
def lawS930007GWordsSpec : ChangeSpec := { name := "lawS930007GWords", fn := fun _ => fun
  | [d1, d2] => { results := [.lit (.bool true)], args := [d1, d2] }
  | _ => none }
def lawS930007GWordsRow : OpenClaim := { program := "ymbrcv", sum := "fe7e35c47bee96b591ee9416654ca2818773fe2abcec5067b2978d08133b779e", func := "example.com/own/bitset.LawS930007GWords", spec := "lawS930007GWords", apart := false }
def LawS930007GWordsSaid : Prop := lawS930007GWordsRow.holds Ycvm.pinned (OpenSpec.ofChange lawS930007GWordsSpec)

/-- ITS FALSE NEIGHBOUR: 'it returns false'. Refute it at one input. -/
def lawS930007GWordsWrong : ChangeSpec := { name := "lawS930007GWords", fn := fun _ => fun
  | [d1, d2] => { results := [.lit (.bool false)], args := [d1, d2] }
  | _ => none }
def LawS930007GWordsWrongFalsely : Prop := lawS930007GWordsRow.holds Ycvm.pinned (OpenSpec.ofChange lawS930007GWordsWrong)

/-- 'bitset.LawS930007GMembers': WHATEVER THE INPUT: true; the input reads as it did. -/
def lawS930007GMembersSpec : ChangeSpec := { name := "lawS930007GMembers", fn := fun _ => fun
  | [d1, d2] => { results := [.lit (.bool true)], args := [d1, d2] }
  | _ => none }
def lawS930007GMembersRow : OpenClaim := { program := "ymbrcv", sum := "fe7e35c47bee96b591ee9416654ca2818773fe2abcec5067b2978d08133b779e", func := "example.com/own/bitset.LawS930007GMembers", spec := "lawS930007GMembers", apart := false }
def LawS930007GMembersSaid : Prop := lawS930007GMembersRow.holds Ycvm.pinned (OpenSpec.ofChange lawS930007GMembersSpec)

/-- ITS FALSE NEIGHBOUR: 'it returns false'. Refute it at one input. -/
def lawS930007GMembersWrong : ChangeSpec := { name := "lawS930007GMembers", fn := fun _ => fun
  | [d1, d2] => { results := [.lit (.bool false)], args := [d1, d2] }
  | _ => none }
def LawS930007GMembersWrongFalsely : Prop := lawS930007GMembersRow.holds Ycvm.pinned (OpenSpec.ofChange lawS930007GMembersWrong)

/-- 'bitset.LawS930007GLattice': WHATEVER THE INPUT: true; the input reads as it did. -/
def lawS930007GLatticeSpec : ChangeSpec := { name := "lawS930007GLattice", fn := fun _ => fun
  | [d1, d2] => { results := [.lit (.bool true)], args := [d1, d2] }
  | _ => none }
def lawS930007GLatticeRow : OpenClaim := { program := "ymbrcv", sum := "fe7e35c47bee96b591ee9416654ca2818773fe2abcec5067b2978d08133b779e", func := "example.com/own/bitset.LawS930007GLattice", spec := "lawS930007GLattice", apart := false }
def LawS930007GLatticeSaid : Prop := lawS930007GLatticeRow.holds Ycvm.pinned (OpenSpec.ofChange lawS930007GLatticeSpec)

/-- ITS FALSE NEIGHBOUR: 'it returns false'. Refute it at one input. -/
def lawS930007GLatticeWrong : ChangeSpec := { name := "lawS930007GLattice", fn := fun _ => fun
  | [d1, d2] => { results := [.lit (.bool false)], args := [d1, d2] }
  | _ => none }
def LawS930007GLatticeWrongFalsely : Prop := lawS930007GLatticeRow.holds Ycvm.pinned (OpenSpec.ofChange lawS930007GLatticeWrong)

/-- 'bitset.LawS930007HExact': WHATEVER THE INPUT: true; the input reads as it did. -/
def lawS930007HExactSpec : ChangeSpec := { name := "lawS930007HExact", fn := fun _ => fun
  | [d] => { results := [.lit (.bool true)], args := [d] }
  | _ => none }
def lawS930007HExactRow : OpenClaim := { program := "ymbrcv", sum := "fe7e35c47bee96b591ee9416654ca2818773fe2abcec5067b2978d08133b779e", func := "example.com/own/bitset.LawS930007HExact", spec := "lawS930007HExact", apart := false }
def LawS930007HExactSaid : Prop := lawS930007HExactRow.holds Ycvm.pinned (OpenSpec.ofChange lawS930007HExactSpec)

/-- ITS FALSE NEIGHBOUR: 'it returns false'. Refute it at one input. -/
def lawS930007HExactWrong : ChangeSpec := { name := "lawS930007HExact", fn := fun _ => fun
  | [d] => { results := [.lit (.bool false)], args := [d] }
  | _ => none }
def LawS930007HExactWrongFalsely : Prop := lawS930007HExactRow.holds Ycvm.pinned (OpenSpec.ofChange lawS930007HExactWrong)

/-- 'bitset.LawS930007HPadded': WHATEVER THE INPUT: true; the input reads as it did. -/
def lawS930007HPaddedSpec : ChangeSpec := { name := "lawS930007HPadded", fn := fun _ => fun
  | [d1, d2, d3] => { results := [.lit (.bool true)], args := [d1, d2, d3] }
  | _ => none }
def lawS930007HPaddedRow : OpenClaim := { program := "ymbrcv", sum := "fe7e35c47bee96b591ee9416654ca2818773fe2abcec5067b2978d08133b779e", func := "example.com/own/bitset.LawS930007HPadded", spec := "lawS930007HPadded", apart := false }
def LawS930007HPaddedSaid : Prop := lawS930007HPaddedRow.holds Ycvm.pinned (OpenSpec.ofChange lawS930007HPaddedSpec)

/-- ITS FALSE NEIGHBOUR: 'it returns false'. Refute it at one input. -/
def lawS930007HPaddedWrong : ChangeSpec := { name := "lawS930007HPadded", fn := fun _ => fun
  | [d1, d2, d3] => { results := [.lit (.bool false)], args := [d1, d2, d3] }
  | _ => none }
def LawS930007HPaddedWrongFalsely : Prop := lawS930007HPaddedRow.holds Ycvm.pinned (OpenSpec.ofChange lawS930007HPaddedWrong)

/-- 'bitset.LawS930007HZeros': WHATEVER THE INPUT: true; the input reads as it did. -/
def lawS930007HZerosSpec : ChangeSpec := { name := "lawS930007HZeros", fn := fun _ => fun
  | [d] => { results := [.lit (.bool true)], args := [d] }
  | _ => none }
def lawS930007HZerosRow : OpenClaim := { program := "ymbrcv", sum := "fe7e35c47bee96b591ee9416654ca2818773fe2abcec5067b2978d08133b779e", func := "example.com/own/bitset.LawS930007HZeros", spec := "lawS930007HZeros", apart := false }
def LawS930007HZerosSaid : Prop := lawS930007HZerosRow.holds Ycvm.pinned (OpenSpec.ofChange lawS930007HZerosSpec)

/-- ITS FALSE NEIGHBOUR: 'it returns false'. Refute it at one input. -/
def lawS930007HZerosWrong : ChangeSpec := { name := "lawS930007HZeros", fn := fun _ => fun
  | [d] => { results := [.lit (.bool false)], args := [d] }
  | _ => none }
def LawS930007HZerosWrongFalsely : Prop := lawS930007HZerosRow.holds Ycvm.pinned (OpenSpec.ofChange lawS930007HZerosWrong)

end Rows
end Go.Proofs.Ymbrcv
