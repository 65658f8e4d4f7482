/-
  No cell of these rows narrows 'for every input' (looked for: loops, veiled, ifaces, maps, wideKeys, modest, calm, conditions, laid).
  DERIVED. THE GIVEN ROWS OF THIS SEAT. 10 by the template 'for every input the law returns true; each argument reads behind the call as it read before'; 0 by the template 'total and deterministic' (their statements: YtggoigdlggenfaaTotals.lean).
  GIVEN WITH THE SEED: the statements are not yours to turn. If you find one false, say at which input.
  Laid BY PROGRAM, IN A SANDBOX (cutbox-rows.mjs): the forced cells as the released guide's own fill.sh prints them over the translation 63055feac1a6b178… (all of the seat's roots in one cut). By AI agents, Wed Nov 11 2026. No macro, syntax, notation, axiom, sorry.
-/
import Derived.Test.YtggoigdlggenfaaChecked
import GoSem.Claim
import GoSem.ClaimJoined
import GoSem.ClaimMapViews
import Derived.JoinedTies
import Derived.KernelRfl
namespace Go.Proofs.Ytggoigdlggenfaa
/- THE CELL 'sum', in the pinned program and in every row, IS THE sha256 OF THE DUMP (.gsa) THAT YtggoigdlggenfaaProg.lean LOADS. Nothing in Lean hashes anything: it is a label: what it is worth is what the hold of that sum in a sandbox is worth. -/
noncomputable def Try.pinned : Pinned := { name := "ytggoigdlggenfaa", sum := "63055feac1a6b1780a03284d7c7f3f859da2b6cdc66c7638953e07958b1bdc24", checked := Try.checked }
namespace Rows
def none {H : Type} : Left H := { results := [], args := [] }

/-- 'hansomlaw03.CodeLonger': WHATEVER THE INPUT: true; the input reads as it did. -/
def codeLongerSpec : ChangeSpec := { name := "codeLonger", fn := fun _ => fun
  | [d1, d2, d3] => { results := [.lit (.bool true)], args := [d1, d2, d3] }
  | _ => none }
def codeLongerRow : OpenClaim := { program := "ytggoigdlggenfaa", sum := "63055feac1a6b1780a03284d7c7f3f859da2b6cdc66c7638953e07958b1bdc24", func := "hansom/hansomlaw03.CodeLonger", spec := "codeLonger", apart := false }
def CodeLongerSaid : Prop := codeLongerRow.holds Try.pinned (OpenSpec.ofChange codeLongerSpec)

/-- ITS FALSE NEIGHBOUR: 'it returns false'. Refute it at one input. -/
def codeLongerWrong : ChangeSpec := { name := "codeLonger", fn := fun _ => fun
  | [d1, d2, d3] => { results := [.lit (.bool false)], args := [d1, d2, d3] }
  | _ => none }
def CodeLongerWrongFalsely : Prop := codeLongerRow.holds Try.pinned (OpenSpec.ofChange codeLongerWrong)

/-- 'hansomlaw03.CodeWrites': WHATEVER THE INPUT: true; the input reads as it did. -/
def codeWritesSpec : ChangeSpec := { name := "codeWrites", fn := fun _ => fun
  | [d1, d2, d3] => { results := [.lit (.bool true)], args := [d1, d2, d3] }
  | _ => none }
def codeWritesRow : OpenClaim := { program := "ytggoigdlggenfaa", sum := "63055feac1a6b1780a03284d7c7f3f859da2b6cdc66c7638953e07958b1bdc24", func := "hansom/hansomlaw03.CodeWrites", spec := "codeWrites", unfollowed := true, recurses := true, apart := false }
def CodeWritesSaid : Prop := codeWritesRow.holds Try.pinned (OpenSpec.ofChange codeWritesSpec)

/-- ITS FALSE NEIGHBOUR: 'it returns false'. Refute it at one input. -/
def codeWritesWrong : ChangeSpec := { name := "codeWrites", fn := fun _ => fun
  | [d1, d2, d3] => { results := [.lit (.bool false)], args := [d1, d2, d3] }
  | _ => none }
def CodeWritesWrongFalsely : Prop := codeWritesRow.holds Try.pinned (OpenSpec.ofChange codeWritesWrong)

/-- 'hansomlaw03.CodeOneForm': WHATEVER THE INPUT: true; the input reads as it did. -/
def codeOneFormSpec : ChangeSpec := { name := "codeOneForm", fn := fun _ => fun
  | [d1, d2] => { results := [.lit (.bool true)], args := [d1, d2] }
  | _ => none }
def codeOneFormRow : OpenClaim := { program := "ytggoigdlggenfaa", sum := "63055feac1a6b1780a03284d7c7f3f859da2b6cdc66c7638953e07958b1bdc24", func := "hansom/hansomlaw03.CodeOneForm", spec := "codeOneForm", apart := false }
def CodeOneFormSaid : Prop := codeOneFormRow.holds Try.pinned (OpenSpec.ofChange codeOneFormSpec)

/-- ITS FALSE NEIGHBOUR: 'it returns false'. Refute it at one input. -/
def codeOneFormWrong : ChangeSpec := { name := "codeOneForm", fn := fun _ => fun
  | [d1, d2] => { results := [.lit (.bool false)], args := [d1, d2] }
  | _ => none }
def CodeOneFormWrongFalsely : Prop := codeOneFormRow.holds Try.pinned (OpenSpec.ofChange codeOneFormWrong)

/-- 'hansomlaw03.CodeMany': WHATEVER THE INPUT: true; the input reads as it did. -/
def codeManySpec : ChangeSpec := { name := "codeMany", fn := fun _ => fun
  | [d1, d2] => { results := [.lit (.bool true)], args := [d1, d2] }
  | _ => none }
def codeManyRow : OpenClaim := { program := "ytggoigdlggenfaa", sum := "63055feac1a6b1780a03284d7c7f3f859da2b6cdc66c7638953e07958b1bdc24", func := "hansom/hansomlaw03.CodeMany", spec := "codeMany", apart := false }
def CodeManySaid : Prop := codeManyRow.holds Try.pinned (OpenSpec.ofChange codeManySpec)

/-- ITS FALSE NEIGHBOUR: 'it returns false'. Refute it at one input. -/
def codeManyWrong : ChangeSpec := { name := "codeMany", fn := fun _ => fun
  | [d1, d2] => { results := [.lit (.bool false)], args := [d1, d2] }
  | _ => none }
def CodeManyWrongFalsely : Prop := codeManyRow.holds Try.pinned (OpenSpec.ofChange codeManyWrong)

/-- 'hansomlaw27.EventPacks': WHATEVER THE INPUT: true; the input reads as it did. -/
def eventPacksSpec : ChangeSpec := { name := "eventPacks", fn := fun _ => fun
  | [d1, d2] => { results := [.lit (.bool true)], args := [d1, d2] }
  | _ => none }
def eventPacksRow : OpenClaim := { program := "ytggoigdlggenfaa", sum := "63055feac1a6b1780a03284d7c7f3f859da2b6cdc66c7638953e07958b1bdc24", func := "hansom/hansomlaw27.EventPacks", spec := "eventPacks", apart := false }
def EventPacksSaid : Prop := eventPacksRow.holds Try.pinned (OpenSpec.ofChange eventPacksSpec)

/-- ITS FALSE NEIGHBOUR: 'it returns false'. Refute it at one input. -/
def eventPacksWrong : ChangeSpec := { name := "eventPacks", fn := fun _ => fun
  | [d1, d2] => { results := [.lit (.bool false)], args := [d1, d2] }
  | _ => none }
def EventPacksWrongFalsely : Prop := eventPacksRow.holds Try.pinned (OpenSpec.ofChange eventPacksWrong)

/-- 'hansomlaw03.CodeNil': WHATEVER THE INPUT: true; the input reads as it did. -/
def codeNilSpec : ChangeSpec := { name := "codeNil", fn := fun _ => fun
  | [d] => { results := [.lit (.bool true)], args := [d] }
  | _ => none }
def codeNilRow : OpenClaim := { program := "ytggoigdlggenfaa", sum := "63055feac1a6b1780a03284d7c7f3f859da2b6cdc66c7638953e07958b1bdc24", func := "hansom/hansomlaw03.CodeNil", spec := "codeNil", apart := false }
def CodeNilSaid : Prop := codeNilRow.holds Try.pinned (OpenSpec.ofChange codeNilSpec)

/-- ITS FALSE NEIGHBOUR: 'it returns false'. Refute it at one input. -/
def codeNilWrong : ChangeSpec := { name := "codeNil", fn := fun _ => fun
  | [d] => { results := [.lit (.bool false)], args := [d] }
  | _ => none }
def CodeNilWrongFalsely : Prop := codeNilRow.holds Try.pinned (OpenSpec.ofChange codeNilWrong)

/-- 'hansomlaw03.CodeReads': WHATEVER THE INPUT: true; the input reads as it did. -/
def codeReadsSpec : ChangeSpec := { name := "codeReads", fn := fun _ => fun
  | [d1, d2] => { results := [.lit (.bool true)], args := [d1, d2] }
  | _ => none }
def codeReadsRow : OpenClaim := { program := "ytggoigdlggenfaa", sum := "63055feac1a6b1780a03284d7c7f3f859da2b6cdc66c7638953e07958b1bdc24", func := "hansom/hansomlaw03.CodeReads", spec := "codeReads", unfollowed := true, recurses := true, apart := false }
def CodeReadsSaid : Prop := codeReadsRow.holds Try.pinned (OpenSpec.ofChange codeReadsSpec)

/-- ITS FALSE NEIGHBOUR: 'it returns false'. Refute it at one input. -/
def codeReadsWrong : ChangeSpec := { name := "codeReads", fn := fun _ => fun
  | [d1, d2] => { results := [.lit (.bool false)], args := [d1, d2] }
  | _ => none }
def CodeReadsWrongFalsely : Prop := codeReadsRow.holds Try.pinned (OpenSpec.ofChange codeReadsWrong)

/-- 'hansomlaw03.CodeBack': WHATEVER THE INPUT: true; the input reads as it did. -/
def codeBackSpec : ChangeSpec := { name := "codeBack", fn := fun _ => fun
  | [d1, d2, d3] => { results := [.lit (.bool true)], args := [d1, d2, d3] }
  | _ => none }
def codeBackRow : OpenClaim := { program := "ytggoigdlggenfaa", sum := "63055feac1a6b1780a03284d7c7f3f859da2b6cdc66c7638953e07958b1bdc24", func := "hansom/hansomlaw03.CodeBack", spec := "codeBack", apart := false }
def CodeBackSaid : Prop := codeBackRow.holds Try.pinned (OpenSpec.ofChange codeBackSpec)

/-- ITS FALSE NEIGHBOUR: 'it returns false'. Refute it at one input. -/
def codeBackWrong : ChangeSpec := { name := "codeBack", fn := fun _ => fun
  | [d1, d2, d3] => { results := [.lit (.bool false)], args := [d1, d2, d3] }
  | _ => none }
def CodeBackWrongFalsely : Prop := codeBackRow.holds Try.pinned (OpenSpec.ofChange codeBackWrong)

/-- 'hansomlaw27.EventStates': WHATEVER THE INPUT: true; the input reads as it did. -/
def eventStatesSpec : ChangeSpec := { name := "eventStates", fn := fun _ => fun
  | [d] => { results := [.lit (.bool true)], args := [d] }
  | _ => none }
def eventStatesRow : OpenClaim := { program := "ytggoigdlggenfaa", sum := "63055feac1a6b1780a03284d7c7f3f859da2b6cdc66c7638953e07958b1bdc24", func := "hansom/hansomlaw27.EventStates", spec := "eventStates", unfollowed := true, recurses := true, apart := false }
def EventStatesSaid : Prop := eventStatesRow.holds Try.pinned (OpenSpec.ofChange eventStatesSpec)

/-- ITS FALSE NEIGHBOUR: 'it returns false'. Refute it at one input. -/
def eventStatesWrong : ChangeSpec := { name := "eventStates", fn := fun _ => fun
  | [d] => { results := [.lit (.bool false)], args := [d] }
  | _ => none }
def EventStatesWrongFalsely : Prop := eventStatesRow.holds Try.pinned (OpenSpec.ofChange eventStatesWrong)

/-- 'hansomlaw27.EventBack': WHATEVER THE INPUT: true; the input reads as it did. -/
def eventBackSpec : ChangeSpec := { name := "eventBack", fn := fun _ => fun
  | [d1, d2, d3, d4, d5] => { results := [.lit (.bool true)], args := [d1, d2, d3, d4, d5] }
  | _ => none }
def eventBackRow : OpenClaim := { program := "ytggoigdlggenfaa", sum := "63055feac1a6b1780a03284d7c7f3f859da2b6cdc66c7638953e07958b1bdc24", func := "hansom/hansomlaw27.EventBack", spec := "eventBack", unfollowed := true, recurses := true, apart := false }
def EventBackSaid : Prop := eventBackRow.holds Try.pinned (OpenSpec.ofChange eventBackSpec)

/-- ITS FALSE NEIGHBOUR: 'it returns false'. Refute it at one input. -/
def eventBackWrong : ChangeSpec := { name := "eventBack", fn := fun _ => fun
  | [d1, d2, d3, d4, d5] => { results := [.lit (.bool false)], args := [d1, d2, d3, d4, d5] }
  | _ => none }
def EventBackWrongFalsely : Prop := eventBackRow.holds Try.pinned (OpenSpec.ofChange eventBackWrong)

/- THE SECOND FORM. 'bulk': how many values and letters a reading holds, each counted each time it is reached (what is shared counts as often as it is met; a slice's spare places count too). A statement '..UptoSaid' is the law's where the arguments, and the package variables that the reading takes, are together of bulk at most 1048576: NARROWER than '..Said'. Prove '..Said' where nothing that the law and all that it calls make is longer than what came in: it says more and counts as full. Else prove '..UptoSaid'. A law counts once. -/
mutual
def uptoBulk {H : Type} : DataW H → Nat
  | .lit (.string bytes) => bytes.length + 1
  | .lit _ => 1
  | .nil => 1
  | .ptr d => uptoBulk d + 1
  | .slice elems spare => uptoBulkAll elems + uptoBulkAll spare + 1
  | .agg parts => uptoBulkAll parts + 1
  | .iface _ d => uptoBulk d + 1
  | .map entries => uptoBulkEntries entries + 1
  | .held _ => 1
def uptoBulkAll {H : Type} : List (DataW H) → Nat
  | [] => 0
  | d :: r => uptoBulk d + uptoBulkAll r
def uptoBulkEntries {H : Type} : List (Lit × DataW H) → Nat
  | [] => 0
  | x :: r => uptoBulkEntry x + uptoBulkEntries r
def uptoBulkEntry {H : Type} : Lit × DataW H → Nat
  | (.string bytes, d) => bytes.length + uptoBulk d + 1
  | (_, d) => uptoBulk d + 1
 end
def uptoSmall : (H : Type) → List (DataW H) → Bool := fun _ ds => decide (uptoBulkAll ds ≤ 1048576)
def OpenSpec.upto (s : _root_.Go.ChangeSpec) : _root_.Go.OpenSpec := { _root_.Go.OpenSpec.ofChange s with cond := some uptoSmall }

/-- 'hansomlaw03.CodeLonger', WHERE WHAT IT READS IS OF BULK AT MOST 1048576: true; the input reads as it did. -/
def codeLongerUptoRow : OpenClaim := { program := "ytggoigdlggenfaa", sum := "63055feac1a6b1780a03284d7c7f3f859da2b6cdc66c7638953e07958b1bdc24", func := "hansom/hansomlaw03.CodeLonger", spec := "codeLonger", apart := false, narrowed := true }
def CodeLongerUptoSaid : Prop := codeLongerUptoRow.holds Try.pinned (OpenSpec.upto codeLongerSpec)

/-- 'hansomlaw03.CodeWrites', WHERE WHAT IT READS IS OF BULK AT MOST 1048576: true; the input reads as it did. -/
def codeWritesUptoRow : OpenClaim := { program := "ytggoigdlggenfaa", sum := "63055feac1a6b1780a03284d7c7f3f859da2b6cdc66c7638953e07958b1bdc24", func := "hansom/hansomlaw03.CodeWrites", spec := "codeWrites", unfollowed := true, recurses := true, apart := false, narrowed := true }
def CodeWritesUptoSaid : Prop := codeWritesUptoRow.holds Try.pinned (OpenSpec.upto codeWritesSpec)

/-- 'hansomlaw03.CodeOneForm', WHERE WHAT IT READS IS OF BULK AT MOST 1048576: true; the input reads as it did. -/
def codeOneFormUptoRow : OpenClaim := { program := "ytggoigdlggenfaa", sum := "63055feac1a6b1780a03284d7c7f3f859da2b6cdc66c7638953e07958b1bdc24", func := "hansom/hansomlaw03.CodeOneForm", spec := "codeOneForm", apart := false, narrowed := true }
def CodeOneFormUptoSaid : Prop := codeOneFormUptoRow.holds Try.pinned (OpenSpec.upto codeOneFormSpec)

/-- 'hansomlaw03.CodeMany', WHERE WHAT IT READS IS OF BULK AT MOST 1048576: true; the input reads as it did. -/
def codeManyUptoRow : OpenClaim := { program := "ytggoigdlggenfaa", sum := "63055feac1a6b1780a03284d7c7f3f859da2b6cdc66c7638953e07958b1bdc24", func := "hansom/hansomlaw03.CodeMany", spec := "codeMany", apart := false, narrowed := true }
def CodeManyUptoSaid : Prop := codeManyUptoRow.holds Try.pinned (OpenSpec.upto codeManySpec)

/-- 'hansomlaw27.EventPacks', WHERE WHAT IT READS IS OF BULK AT MOST 1048576: true; the input reads as it did. -/
def eventPacksUptoRow : OpenClaim := { program := "ytggoigdlggenfaa", sum := "63055feac1a6b1780a03284d7c7f3f859da2b6cdc66c7638953e07958b1bdc24", func := "hansom/hansomlaw27.EventPacks", spec := "eventPacks", apart := false, narrowed := true }
def EventPacksUptoSaid : Prop := eventPacksUptoRow.holds Try.pinned (OpenSpec.upto eventPacksSpec)

/-- 'hansomlaw03.CodeNil', WHERE WHAT IT READS IS OF BULK AT MOST 1048576: true; the input reads as it did. -/
def codeNilUptoRow : OpenClaim := { program := "ytggoigdlggenfaa", sum := "63055feac1a6b1780a03284d7c7f3f859da2b6cdc66c7638953e07958b1bdc24", func := "hansom/hansomlaw03.CodeNil", spec := "codeNil", apart := false, narrowed := true }
def CodeNilUptoSaid : Prop := codeNilUptoRow.holds Try.pinned (OpenSpec.upto codeNilSpec)

/-- 'hansomlaw03.CodeReads', WHERE WHAT IT READS IS OF BULK AT MOST 1048576: true; the input reads as it did. -/
def codeReadsUptoRow : OpenClaim := { program := "ytggoigdlggenfaa", sum := "63055feac1a6b1780a03284d7c7f3f859da2b6cdc66c7638953e07958b1bdc24", func := "hansom/hansomlaw03.CodeReads", spec := "codeReads", unfollowed := true, recurses := true, apart := false, narrowed := true }
def CodeReadsUptoSaid : Prop := codeReadsUptoRow.holds Try.pinned (OpenSpec.upto codeReadsSpec)

/-- 'hansomlaw03.CodeBack', WHERE WHAT IT READS IS OF BULK AT MOST 1048576: true; the input reads as it did. -/
def codeBackUptoRow : OpenClaim := { program := "ytggoigdlggenfaa", sum := "63055feac1a6b1780a03284d7c7f3f859da2b6cdc66c7638953e07958b1bdc24", func := "hansom/hansomlaw03.CodeBack", spec := "codeBack", apart := false, narrowed := true }
def CodeBackUptoSaid : Prop := codeBackUptoRow.holds Try.pinned (OpenSpec.upto codeBackSpec)

/-- 'hansomlaw27.EventStates', WHERE WHAT IT READS IS OF BULK AT MOST 1048576: true; the input reads as it did. -/
def eventStatesUptoRow : OpenClaim := { program := "ytggoigdlggenfaa", sum := "63055feac1a6b1780a03284d7c7f3f859da2b6cdc66c7638953e07958b1bdc24", func := "hansom/hansomlaw27.EventStates", spec := "eventStates", unfollowed := true, recurses := true, apart := false, narrowed := true }
def EventStatesUptoSaid : Prop := eventStatesUptoRow.holds Try.pinned (OpenSpec.upto eventStatesSpec)

/-- 'hansomlaw27.EventBack', WHERE WHAT IT READS IS OF BULK AT MOST 1048576: true; the input reads as it did. -/
def eventBackUptoRow : OpenClaim := { program := "ytggoigdlggenfaa", sum := "63055feac1a6b1780a03284d7c7f3f859da2b6cdc66c7638953e07958b1bdc24", func := "hansom/hansomlaw27.EventBack", spec := "eventBack", unfollowed := true, recurses := true, apart := false, narrowed := true }
def EventBackUptoSaid : Prop := eventBackUptoRow.holds Try.pinned (OpenSpec.upto eventBackSpec)

end Rows
end Go.Proofs.Ytggoigdlggenfaa
