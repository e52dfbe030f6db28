/-
  No cell of these rows narrows 'for every input' (looked for: loops, veiled, ifaces, maps, wideKeys, modest, calm, conditions, laid).
  DERIVED. THE GIVEN ROWS OF THIS SEAT. 4 by the template 'for every input the law returns true; each argument reads behind the call as it read before'; 0 by the template 'total and deterministic' (their statements: YtmckbfdklcmogaaTotals.lean).
  GIVEN WITH THE SEED: the statements are not yours to turn. If you find one false, say at which input.
  Laid BY PROGRAM, IN A SANDBOX (cutbox-rows.mjs): the forced cells as the released guide's own fill.sh prints them over the translation d0cbd9d3bf7b97f5… (all of the seat's roots in one cut). By AI agents, Wed Nov 11 2026. No macro, syntax, notation, axiom, sorry.
-/
import Derived.Test.YtmckbfdklcmogaaChecked
import GoSem.Claim
import GoSem.ClaimJoined
import GoSem.ClaimMapViews
import Derived.JoinedTies
import Derived.KernelRfl
namespace Go.Proofs.Ytmckbfdklcmogaa
/- THE CELL 'sum', in the pinned program and in every row, IS THE sha256 OF THE DUMP (.gsa) THAT YtmckbfdklcmogaaProg.lean LOADS. Nothing in Lean hashes anything: it is a label: what it is worth is what the hold of that sum in a sandbox is worth. -/
noncomputable def Try.pinned : Pinned := { name := "ytmckbfdklcmogaa", sum := "d0cbd9d3bf7b97f5dd9f4eff655cd89cb0de88d0ffba5781c4cef16879c8a065", checked := Try.checked }
namespace Rows
def none {H : Type} : Left H := { results := [], args := [] }

/-- 'transomlaw26.WalkAll': WHATEVER THE INPUT: true; the input reads as it did. -/
def walkAllSpec : ChangeSpec := { name := "walkAll", fn := fun _ => fun
  | [d1, d2] => { results := [.lit (.bool true)], args := [d1, d2] }
  | _ => none }
def walkAllRow : OpenClaim := { program := "ytmckbfdklcmogaa", sum := "d0cbd9d3bf7b97f5dd9f4eff655cd89cb0de88d0ffba5781c4cef16879c8a065", func := "transom/transomlaw26.WalkAll", spec := "walkAll", recurses := true, apart := false }
def WalkAllSaid : Prop := walkAllRow.holds Try.pinned (OpenSpec.ofChange walkAllSpec)

/-- ITS FALSE NEIGHBOUR: 'it returns false'. Refute it at one input. -/
def walkAllWrong : ChangeSpec := { name := "walkAll", fn := fun _ => fun
  | [d1, d2] => { results := [.lit (.bool false)], args := [d1, d2] }
  | _ => none }
def WalkAllWrongFalsely : Prop := walkAllRow.holds Try.pinned (OpenSpec.ofChange walkAllWrong)

/-- 'transomlaw26.WalkTurns': WHATEVER THE INPUT: true; the input reads as it did. -/
def walkTurnsSpec : ChangeSpec := { name := "walkTurns", fn := fun _ => fun
  | [d1, d2] => { results := [.lit (.bool true)], args := [d1, d2] }
  | _ => none }
def walkTurnsRow : OpenClaim := { program := "ytmckbfdklcmogaa", sum := "d0cbd9d3bf7b97f5dd9f4eff655cd89cb0de88d0ffba5781c4cef16879c8a065", func := "transom/transomlaw26.WalkTurns", spec := "walkTurns", recurses := true, apart := false }
def WalkTurnsSaid : Prop := walkTurnsRow.holds Try.pinned (OpenSpec.ofChange walkTurnsSpec)

/-- ITS FALSE NEIGHBOUR: 'it returns false'. Refute it at one input. -/
def walkTurnsWrong : ChangeSpec := { name := "walkTurns", fn := fun _ => fun
  | [d1, d2] => { results := [.lit (.bool false)], args := [d1, d2] }
  | _ => none }
def WalkTurnsWrongFalsely : Prop := walkTurnsRow.holds Try.pinned (OpenSpec.ofChange walkTurnsWrong)

/-- 'transomlaw26.WalkForms': WHATEVER THE INPUT: true; the input reads as it did. -/
def walkFormsSpec : ChangeSpec := { name := "walkForms", fn := fun _ => fun
  | [] => { results := [.lit (.bool true)], args := [] }
  | _ => none }
def walkFormsRow : OpenClaim := { program := "ytmckbfdklcmogaa", sum := "d0cbd9d3bf7b97f5dd9f4eff655cd89cb0de88d0ffba5781c4cef16879c8a065", func := "transom/transomlaw26.WalkForms", spec := "walkForms", recurses := true, apart := false }
def WalkFormsSaid : Prop := walkFormsRow.holds Try.pinned (OpenSpec.ofChange walkFormsSpec)

/-- ITS FALSE NEIGHBOUR: 'it returns false'. Refute it at one input. -/
def walkFormsWrong : ChangeSpec := { name := "walkForms", fn := fun _ => fun
  | [] => { results := [.lit (.bool false)], args := [] }
  | _ => none }
def WalkFormsWrongFalsely : Prop := walkFormsRow.holds Try.pinned (OpenSpec.ofChange walkFormsWrong)

/-- 'transomlaw26.WalkDown': WHATEVER THE INPUT: true; the input reads as it did. -/
def walkDownSpec : ChangeSpec := { name := "walkDown", fn := fun _ => fun
  | [d1, d2] => { results := [.lit (.bool true)], args := [d1, d2] }
  | _ => none }
def walkDownRow : OpenClaim := { program := "ytmckbfdklcmogaa", sum := "d0cbd9d3bf7b97f5dd9f4eff655cd89cb0de88d0ffba5781c4cef16879c8a065", func := "transom/transomlaw26.WalkDown", spec := "walkDown", recurses := true, apart := false }
def WalkDownSaid : Prop := walkDownRow.holds Try.pinned (OpenSpec.ofChange walkDownSpec)

/-- ITS FALSE NEIGHBOUR: 'it returns false'. Refute it at one input. -/
def walkDownWrong : ChangeSpec := { name := "walkDown", fn := fun _ => fun
  | [d1, d2] => { results := [.lit (.bool false)], args := [d1, d2] }
  | _ => none }
def WalkDownWrongFalsely : Prop := walkDownRow.holds Try.pinned (OpenSpec.ofChange walkDownWrong)

/- THE SECOND FORM. 'bulk': how many values and letters a reading holds, each counted each time it is reached (what is shared counts as often as it is met; a slice's spare places count too). A statement '..UptoSaid' is the law's where the arguments, and the package variables that the reading takes, are together of bulk at most 1048576: NARROWER than '..Said'. Prove '..Said' where nothing that the law and all that it calls make is longer than what came in: it says more and counts as full. Else prove '..UptoSaid'. A law counts once. -/
mutual
def uptoBulk {H : Type} : DataW H → Nat
  | .lit (.string bytes) => bytes.length + 1
  | .lit _ => 1
  | .nil => 1
  | .ptr d => uptoBulk d + 1
  | .slice elems spare => uptoBulkAll elems + uptoBulkAll spare + 1
  | .agg parts => uptoBulkAll parts + 1
  | .iface _ d => uptoBulk d + 1
  | .map entries => uptoBulkEntries entries + 1
  | .held _ => 1
def uptoBulkAll {H : Type} : List (DataW H) → Nat
  | [] => 0
  | d :: r => uptoBulk d + uptoBulkAll r
def uptoBulkEntries {H : Type} : List (Lit × DataW H) → Nat
  | [] => 0
  | x :: r => uptoBulkEntry x + uptoBulkEntries r
def uptoBulkEntry {H : Type} : Lit × DataW H → Nat
  | (.string bytes, d) => bytes.length + uptoBulk d + 1
  | (_, d) => uptoBulk d + 1
 end
def uptoSmall : (H : Type) → List (DataW H) → Bool := fun _ ds => decide (uptoBulkAll ds ≤ 1048576)
def OpenSpec.upto (s : _root_.Go.ChangeSpec) : _root_.Go.OpenSpec := { _root_.Go.OpenSpec.ofChange s with cond := some uptoSmall }

/-- 'transomlaw26.WalkAll', WHERE WHAT IT READS IS OF BULK AT MOST 1048576: true; the input reads as it did. -/
def walkAllUptoRow : OpenClaim := { program := "ytmckbfdklcmogaa", sum := "d0cbd9d3bf7b97f5dd9f4eff655cd89cb0de88d0ffba5781c4cef16879c8a065", func := "transom/transomlaw26.WalkAll", spec := "walkAll", recurses := true, apart := false, narrowed := true }
def WalkAllUptoSaid : Prop := walkAllUptoRow.holds Try.pinned (OpenSpec.upto walkAllSpec)

/-- 'transomlaw26.WalkTurns', WHERE WHAT IT READS IS OF BULK AT MOST 1048576: true; the input reads as it did. -/
def walkTurnsUptoRow : OpenClaim := { program := "ytmckbfdklcmogaa", sum := "d0cbd9d3bf7b97f5dd9f4eff655cd89cb0de88d0ffba5781c4cef16879c8a065", func := "transom/transomlaw26.WalkTurns", spec := "walkTurns", recurses := true, apart := false, narrowed := true }
def WalkTurnsUptoSaid : Prop := walkTurnsUptoRow.holds Try.pinned (OpenSpec.upto walkTurnsSpec)

/-- 'transomlaw26.WalkForms', WHERE WHAT IT READS IS OF BULK AT MOST 1048576: true; the input reads as it did. -/
def walkFormsUptoRow : OpenClaim := { program := "ytmckbfdklcmogaa", sum := "d0cbd9d3bf7b97f5dd9f4eff655cd89cb0de88d0ffba5781c4cef16879c8a065", func := "transom/transomlaw26.WalkForms", spec := "walkForms", recurses := true, apart := false, narrowed := true }
def WalkFormsUptoSaid : Prop := walkFormsUptoRow.holds Try.pinned (OpenSpec.upto walkFormsSpec)

/-- 'transomlaw26.WalkDown', WHERE WHAT IT READS IS OF BULK AT MOST 1048576: true; the input reads as it did. -/
def walkDownUptoRow : OpenClaim := { program := "ytmckbfdklcmogaa", sum := "d0cbd9d3bf7b97f5dd9f4eff655cd89cb0de88d0ffba5781c4cef16879c8a065", func := "transom/transomlaw26.WalkDown", spec := "walkDown", recurses := true, apart := false, narrowed := true }
def WalkDownUptoSaid : Prop := walkDownUptoRow.holds Try.pinned (OpenSpec.upto walkDownSpec)

end Rows
end Go.Proofs.Ytmckbfdklcmogaa
