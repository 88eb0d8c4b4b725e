/-
  No cell of these rows narrows 'for every input' (looked for: loops, veiled, ifaces, maps, wideKeys, modest, calm, conditions, laid).
  DERIVED. THE GIVEN ROWS OF THIS SEAT. 12 by the template 'for every input the law returns true; each argument reads behind the call as it read before'; 0 by the template 'total and deterministic' (their statements: YmbrcuTotals.lean).
  GIVEN WITH THE SEED: the statements are not yours to turn. If you find one false, say at which input.
  Laid BY PROGRAM, IN A SANDBOX (cutbox-rows.mjs): the forced cells as the released guide's own fill.sh prints them over the translation 09caa804984c35fd… (all of the seat's roots in one cut). By AI agents, Wed Nov 11 2026. No macro, syntax, notation, axiom, sorry.
-/
import Derived.Test.YmbrcuChecked
import GoSem.Claim
import GoSem.ClaimJoined
import GoSem.ClaimMapViews
import Derived.JoinedTies
import Derived.KernelRfl
namespace Go.Proofs.Ymbrcu
/- THE CELL 'sum', in the pinned program and in every row, IS THE sha256 OF THE DUMP (.gsa) THAT YmbrcuProg.lean LOADS. Nothing in Lean hashes anything: it is a label: what it is worth is what the hold of that sum in a sandbox is worth. -/
noncomputable def Ycum.pinned : Pinned := { name := "ymbrcu", sum := "09caa804984c35fdb7d1eac1348f6c73afb035765959ccdd326a20771210a9df", checked := Ycum.checked }
namespace Rows
def none {H : Type} : Left H := { results := [], args := [] }

/-- 'bitset.LawS930007AWords': WHATEVER THE INPUT: true; the input reads as it did. -/
def lawS930007AWordsSpec : ChangeSpec := { name := "lawS930007AWords", fn := fun _ => fun
  | [d1, d2, d3] => { results := [.lit (.bool true)], args := [d1, d2, d3] }
  | _ => none }
def lawS930007AWordsRow : OpenClaim := { program := "ymbrcu", sum := "09caa804984c35fdb7d1eac1348f6c73afb035765959ccdd326a20771210a9df", func := "example.com/own/bitset.LawS930007AWords", spec := "lawS930007AWords", apart := false }
def LawS930007AWordsSaid : Prop := lawS930007AWordsRow.holds Ycum.pinned (OpenSpec.ofChange lawS930007AWordsSpec)

/-- ITS FALSE NEIGHBOUR: 'it returns false'. Refute it at one input. -/
def lawS930007AWordsWrong : ChangeSpec := { name := "lawS930007AWords", fn := fun _ => fun
  | [d1, d2, d3] => { results := [.lit (.bool false)], args := [d1, d2, d3] }
  | _ => none }
def LawS930007AWordsWrongFalsely : Prop := lawS930007AWordsRow.holds Ycum.pinned (OpenSpec.ofChange lawS930007AWordsWrong)

/-- 'bitset.LawS930007AMember': WHATEVER THE INPUT: true; the input reads as it did. -/
def lawS930007AMemberSpec : ChangeSpec := { name := "lawS930007AMember", fn := fun _ => fun
  | [d1, d2, d3, d4, d5] => { results := [.lit (.bool true)], args := [d1, d2, d3, d4, d5] }
  | _ => none }
def lawS930007AMemberRow : OpenClaim := { program := "ymbrcu", sum := "09caa804984c35fdb7d1eac1348f6c73afb035765959ccdd326a20771210a9df", func := "example.com/own/bitset.LawS930007AMember", spec := "lawS930007AMember", apart := false }
def LawS930007AMemberSaid : Prop := lawS930007AMemberRow.holds Ycum.pinned (OpenSpec.ofChange lawS930007AMemberSpec)

/-- ITS FALSE NEIGHBOUR: 'it returns false'. Refute it at one input. -/
def lawS930007AMemberWrong : ChangeSpec := { name := "lawS930007AMember", fn := fun _ => fun
  | [d1, d2, d3, d4, d5] => { results := [.lit (.bool false)], args := [d1, d2, d3, d4, d5] }
  | _ => none }
def LawS930007AMemberWrongFalsely : Prop := lawS930007AMemberRow.holds Ycum.pinned (OpenSpec.ofChange lawS930007AMemberWrong)

/-- 'bitset.LawS930007AScript': WHATEVER THE INPUT: true; the input reads as it did. -/
def lawS930007AScriptSpec : ChangeSpec := { name := "lawS930007AScript", fn := fun _ => fun
  | [d1, d2] => { results := [.lit (.bool true)], args := [d1, d2] }
  | _ => none }
def lawS930007AScriptRow : OpenClaim := { program := "ymbrcu", sum := "09caa804984c35fdb7d1eac1348f6c73afb035765959ccdd326a20771210a9df", func := "example.com/own/bitset.LawS930007AScript", spec := "lawS930007AScript", apart := false }
def LawS930007AScriptSaid : Prop := lawS930007AScriptRow.holds Ycum.pinned (OpenSpec.ofChange lawS930007AScriptSpec)

/-- ITS FALSE NEIGHBOUR: 'it returns false'. Refute it at one input. -/
def lawS930007AScriptWrong : ChangeSpec := { name := "lawS930007AScript", fn := fun _ => fun
  | [d1, d2] => { results := [.lit (.bool false)], args := [d1, d2] }
  | _ => none }
def LawS930007AScriptWrongFalsely : Prop := lawS930007AScriptRow.holds Ycum.pinned (OpenSpec.ofChange lawS930007AScriptWrong)

/-- 'bitset.LawS930007BMembers': WHATEVER THE INPUT: true; the input reads as it did. -/
def lawS930007BMembersSpec : ChangeSpec := { name := "lawS930007BMembers", fn := fun _ => fun
  | [d1, d2, d3] => { results := [.lit (.bool true)], args := [d1, d2, d3] }
  | _ => none }
def lawS930007BMembersRow : OpenClaim := { program := "ymbrcu", sum := "09caa804984c35fdb7d1eac1348f6c73afb035765959ccdd326a20771210a9df", func := "example.com/own/bitset.LawS930007BMembers", spec := "lawS930007BMembers", apart := false }
def LawS930007BMembersSaid : Prop := lawS930007BMembersRow.holds Ycum.pinned (OpenSpec.ofChange lawS930007BMembersSpec)

/-- ITS FALSE NEIGHBOUR: 'it returns false'. Refute it at one input. -/
def lawS930007BMembersWrong : ChangeSpec := { name := "lawS930007BMembers", fn := fun _ => fun
  | [d1, d2, d3] => { results := [.lit (.bool false)], args := [d1, d2, d3] }
  | _ => none }
def LawS930007BMembersWrongFalsely : Prop := lawS930007BMembersRow.holds Ycum.pinned (OpenSpec.ofChange lawS930007BMembersWrong)

/-- 'bitset.LawS930007BElems': WHATEVER THE INPUT: true; the input reads as it did. -/
def lawS930007BElemsSpec : ChangeSpec := { name := "lawS930007BElems", fn := fun _ => fun
  | [d1, d2, d3] => { results := [.lit (.bool true)], args := [d1, d2, d3] }
  | _ => none }
def lawS930007BElemsRow : OpenClaim := { program := "ymbrcu", sum := "09caa804984c35fdb7d1eac1348f6c73afb035765959ccdd326a20771210a9df", func := "example.com/own/bitset.LawS930007BElems", spec := "lawS930007BElems", apart := false }
def LawS930007BElemsSaid : Prop := lawS930007BElemsRow.holds Ycum.pinned (OpenSpec.ofChange lawS930007BElemsSpec)

/-- ITS FALSE NEIGHBOUR: 'it returns false'. Refute it at one input. -/
def lawS930007BElemsWrong : ChangeSpec := { name := "lawS930007BElems", fn := fun _ => fun
  | [d1, d2, d3] => { results := [.lit (.bool false)], args := [d1, d2, d3] }
  | _ => none }
def LawS930007BElemsWrongFalsely : Prop := lawS930007BElemsRow.holds Ycum.pinned (OpenSpec.ofChange lawS930007BElemsWrong)

/-- 'bitset.LawS930007BUndo': WHATEVER THE INPUT: true; the input reads as it did. -/
def lawS930007BUndoSpec : ChangeSpec := { name := "lawS930007BUndo", fn := fun _ => fun
  | [d1, d2, d3] => { results := [.lit (.bool true)], args := [d1, d2, d3] }
  | _ => none }
def lawS930007BUndoRow : OpenClaim := { program := "ymbrcu", sum := "09caa804984c35fdb7d1eac1348f6c73afb035765959ccdd326a20771210a9df", func := "example.com/own/bitset.LawS930007BUndo", spec := "lawS930007BUndo", apart := false }
def LawS930007BUndoSaid : Prop := lawS930007BUndoRow.holds Ycum.pinned (OpenSpec.ofChange lawS930007BUndoSpec)

/-- ITS FALSE NEIGHBOUR: 'it returns false'. Refute it at one input. -/
def lawS930007BUndoWrong : ChangeSpec := { name := "lawS930007BUndo", fn := fun _ => fun
  | [d1, d2, d3] => { results := [.lit (.bool false)], args := [d1, d2, d3] }
  | _ => none }
def LawS930007BUndoWrongFalsely : Prop := lawS930007BUndoRow.holds Ycum.pinned (OpenSpec.ofChange lawS930007BUndoWrong)

/-- 'bitset.LawS930007CWords': WHATEVER THE INPUT: true; the input reads as it did. -/
def lawS930007CWordsSpec : ChangeSpec := { name := "lawS930007CWords", fn := fun _ => fun
  | [d1, d2] => { results := [.lit (.bool true)], args := [d1, d2] }
  | _ => none }
def lawS930007CWordsRow : OpenClaim := { program := "ymbrcu", sum := "09caa804984c35fdb7d1eac1348f6c73afb035765959ccdd326a20771210a9df", func := "example.com/own/bitset.LawS930007CWords", spec := "lawS930007CWords", apart := false }
def LawS930007CWordsSaid : Prop := lawS930007CWordsRow.holds Ycum.pinned (OpenSpec.ofChange lawS930007CWordsSpec)

/-- ITS FALSE NEIGHBOUR: 'it returns false'. Refute it at one input. -/
def lawS930007CWordsWrong : ChangeSpec := { name := "lawS930007CWords", fn := fun _ => fun
  | [d1, d2] => { results := [.lit (.bool false)], args := [d1, d2] }
  | _ => none }
def LawS930007CWordsWrongFalsely : Prop := lawS930007CWordsRow.holds Ycum.pinned (OpenSpec.ofChange lawS930007CWordsWrong)

/-- 'bitset.LawS930007CElems': WHATEVER THE INPUT: true; the input reads as it did. -/
def lawS930007CElemsSpec : ChangeSpec := { name := "lawS930007CElems", fn := fun _ => fun
  | [d1, d2, d3] => { results := [.lit (.bool true)], args := [d1, d2, d3] }
  | _ => none }
def lawS930007CElemsRow : OpenClaim := { program := "ymbrcu", sum := "09caa804984c35fdb7d1eac1348f6c73afb035765959ccdd326a20771210a9df", func := "example.com/own/bitset.LawS930007CElems", spec := "lawS930007CElems", apart := false }
def LawS930007CElemsSaid : Prop := lawS930007CElemsRow.holds Ycum.pinned (OpenSpec.ofChange lawS930007CElemsSpec)

/-- ITS FALSE NEIGHBOUR: 'it returns false'. Refute it at one input. -/
def lawS930007CElemsWrong : ChangeSpec := { name := "lawS930007CElems", fn := fun _ => fun
  | [d1, d2, d3] => { results := [.lit (.bool false)], args := [d1, d2, d3] }
  | _ => none }
def LawS930007CElemsWrongFalsely : Prop := lawS930007CElemsRow.holds Ycum.pinned (OpenSpec.ofChange lawS930007CElemsWrong)

/-- 'bitset.LawS930007CAlias': WHATEVER THE INPUT: true; the input reads as it did. -/
def lawS930007CAliasSpec : ChangeSpec := { name := "lawS930007CAlias", fn := fun _ => fun
  | [d1, d2, d3] => { results := [.lit (.bool true)], args := [d1, d2, d3] }
  | _ => none }
def lawS930007CAliasRow : OpenClaim := { program := "ymbrcu", sum := "09caa804984c35fdb7d1eac1348f6c73afb035765959ccdd326a20771210a9df", func := "example.com/own/bitset.LawS930007CAlias", spec := "lawS930007CAlias", apart := false }
def LawS930007CAliasSaid : Prop := lawS930007CAliasRow.holds Ycum.pinned (OpenSpec.ofChange lawS930007CAliasSpec)

/-- ITS FALSE NEIGHBOUR: 'it returns false'. Refute it at one input. -/
def lawS930007CAliasWrong : ChangeSpec := { name := "lawS930007CAlias", fn := fun _ => fun
  | [d1, d2, d3] => { results := [.lit (.bool false)], args := [d1, d2, d3] }
  | _ => none }
def LawS930007CAliasWrongFalsely : Prop := lawS930007CAliasRow.holds Ycum.pinned (OpenSpec.ofChange lawS930007CAliasWrong)

/-- 'bitset.LawS930007DWalk': WHATEVER THE INPUT: true; the input reads as it did. -/
def lawS930007DWalkSpec : ChangeSpec := { name := "lawS930007DWalk", fn := fun _ => fun
  | [d1, d2, d3, d4] => { results := [.lit (.bool true)], args := [d1, d2, d3, d4] }
  | _ => none }
def lawS930007DWalkRow : OpenClaim := { program := "ymbrcu", sum := "09caa804984c35fdb7d1eac1348f6c73afb035765959ccdd326a20771210a9df", func := "example.com/own/bitset.LawS930007DWalk", spec := "lawS930007DWalk", apart := false }
def LawS930007DWalkSaid : Prop := lawS930007DWalkRow.holds Ycum.pinned (OpenSpec.ofChange lawS930007DWalkSpec)

/-- ITS FALSE NEIGHBOUR: 'it returns false'. Refute it at one input. -/
def lawS930007DWalkWrong : ChangeSpec := { name := "lawS930007DWalk", fn := fun _ => fun
  | [d1, d2, d3, d4] => { results := [.lit (.bool false)], args := [d1, d2, d3, d4] }
  | _ => none }
def LawS930007DWalkWrongFalsely : Prop := lawS930007DWalkRow.holds Ycum.pinned (OpenSpec.ofChange lawS930007DWalkWrong)

/-- 'bitset.LawS930007DMember': WHATEVER THE INPUT: true; the input reads as it did. -/
def lawS930007DMemberSpec : ChangeSpec := { name := "lawS930007DMember", fn := fun _ => fun
  | [d1, d2] => { results := [.lit (.bool true)], args := [d1, d2] }
  | _ => none }
def lawS930007DMemberRow : OpenClaim := { program := "ymbrcu", sum := "09caa804984c35fdb7d1eac1348f6c73afb035765959ccdd326a20771210a9df", func := "example.com/own/bitset.LawS930007DMember", spec := "lawS930007DMember", apart := false }
def LawS930007DMemberSaid : Prop := lawS930007DMemberRow.holds Ycum.pinned (OpenSpec.ofChange lawS930007DMemberSpec)

/-- ITS FALSE NEIGHBOUR: 'it returns false'. Refute it at one input. -/
def lawS930007DMemberWrong : ChangeSpec := { name := "lawS930007DMember", fn := fun _ => fun
  | [d1, d2] => { results := [.lit (.bool false)], args := [d1, d2] }
  | _ => none }
def LawS930007DMemberWrongFalsely : Prop := lawS930007DMemberRow.holds Ycum.pinned (OpenSpec.ofChange lawS930007DMemberWrong)

/-- 'bitset.LawS930007DSet': WHATEVER THE INPUT: true; the input reads as it did. -/
def lawS930007DSetSpec : ChangeSpec := { name := "lawS930007DSet", fn := fun _ => fun
  | [d1, d2, d3] => { results := [.lit (.bool true)], args := [d1, d2, d3] }
  | _ => none }
def lawS930007DSetRow : OpenClaim := { program := "ymbrcu", sum := "09caa804984c35fdb7d1eac1348f6c73afb035765959ccdd326a20771210a9df", func := "example.com/own/bitset.LawS930007DSet", spec := "lawS930007DSet", apart := false }
def LawS930007DSetSaid : Prop := lawS930007DSetRow.holds Ycum.pinned (OpenSpec.ofChange lawS930007DSetSpec)

/-- ITS FALSE NEIGHBOUR: 'it returns false'. Refute it at one input. -/
def lawS930007DSetWrong : ChangeSpec := { name := "lawS930007DSet", fn := fun _ => fun
  | [d1, d2, d3] => { results := [.lit (.bool false)], args := [d1, d2, d3] }
  | _ => none }
def LawS930007DSetWrongFalsely : Prop := lawS930007DSetRow.holds Ycum.pinned (OpenSpec.ofChange lawS930007DSetWrong)

end Rows
end Go.Proofs.Ymbrcu
