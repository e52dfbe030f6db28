/-
  No cell of these rows narrows 'for every input' (looked for: loops, veiled, ifaces, maps, wideKeys, modest, calm, conditions, laid).
  DERIVED. THE GIVEN ROWS OF THIS SEAT. 7 by the template 'for every input the law returns true; each argument reads behind the call as it read before'; 0 by the template 'total and deterministic' (their statements: YtnoeanngdhaobaaTotals.lean).
  GIVEN WITH THE SEED: the statements are not yours to turn. If you find one false, say at which input.
  Laid BY PROGRAM, IN A SANDBOX (cutbox-rows.mjs): the forced cells as the released guide's own fill.sh prints them over the translation da1ff0ed307ff273… (all of the seat's roots in one cut). By AI agents, Wed Nov 11 2026. No macro, syntax, notation, axiom, sorry.
-/
import Derived.Test.YtnoeanngdhaobaaChecked
import GoSem.Claim
import GoSem.ClaimJoined
import GoSem.ClaimMapViews
import Derived.JoinedTies
import Derived.KernelRfl
namespace Go.Proofs.Ytnoeanngdhaobaa
/- THE CELL 'sum', in the pinned program and in every row, IS THE sha256 OF THE DUMP (.gsa) THAT YtnoeanngdhaobaaProg.lean LOADS. Nothing in Lean hashes anything: it is a label: what it is worth is what the hold of that sum in a sandbox is worth. -/
noncomputable def Try.pinned : Pinned := { name := "ytnoeanngdhaobaa", sum := "da1ff0ed307ff2734a201a09bde57d662850d6793fad96dc80ed918465c23815", checked := Try.checked }
namespace Rows
def none {H : Type} : Left H := { results := [], args := [] }

/-- 'transomlaw4.CatsForms': WHATEVER THE INPUT: true; the input reads as it did. -/
def catsFormsSpec : ChangeSpec := { name := "catsForms", fn := fun _ => fun
  | [] => { results := [.lit (.bool true)], args := [] }
  | _ => none }
def catsFormsRow : OpenClaim := { program := "ytnoeanngdhaobaa", sum := "da1ff0ed307ff2734a201a09bde57d662850d6793fad96dc80ed918465c23815", func := "transom/transomlaw4.CatsForms", spec := "catsForms", unfollowed := true, recurses := true, apart := false }
def CatsFormsSaid : Prop := catsFormsRow.holds Try.pinned (OpenSpec.ofChange catsFormsSpec)

/-- ITS FALSE NEIGHBOUR: 'it returns false'. Refute it at one input. -/
def catsFormsWrong : ChangeSpec := { name := "catsForms", fn := fun _ => fun
  | [] => { results := [.lit (.bool false)], args := [] }
  | _ => none }
def CatsFormsWrongFalsely : Prop := catsFormsRow.holds Try.pinned (OpenSpec.ofChange catsFormsWrong)

/-- 'transomlaw16.RingForms': WHATEVER THE INPUT: true; the input reads as it did. -/
def ringFormsSpec : ChangeSpec := { name := "ringForms", fn := fun _ => fun
  | [] => { results := [.lit (.bool true)], args := [] }
  | _ => none }
def ringFormsRow : OpenClaim := { program := "ytnoeanngdhaobaa", sum := "da1ff0ed307ff2734a201a09bde57d662850d6793fad96dc80ed918465c23815", func := "transom/transomlaw16.RingForms", spec := "ringForms", unfollowed := true, recurses := true, apart := false }
def RingFormsSaid : Prop := ringFormsRow.holds Try.pinned (OpenSpec.ofChange ringFormsSpec)

/-- ITS FALSE NEIGHBOUR: 'it returns false'. Refute it at one input. -/
def ringFormsWrong : ChangeSpec := { name := "ringForms", fn := fun _ => fun
  | [] => { results := [.lit (.bool false)], args := [] }
  | _ => none }
def RingFormsWrongFalsely : Prop := ringFormsRow.holds Try.pinned (OpenSpec.ofChange ringFormsWrong)

/-- 'transomlaw20.Call1Forms': WHATEVER THE INPUT: true; the input reads as it did. -/
def call1FormsSpec : ChangeSpec := { name := "call1Forms", fn := fun _ => fun
  | [] => { results := [.lit (.bool true)], args := [] }
  | _ => none }
def call1FormsRow : OpenClaim := { program := "ytnoeanngdhaobaa", sum := "da1ff0ed307ff2734a201a09bde57d662850d6793fad96dc80ed918465c23815", func := "transom/transomlaw20.Call1Forms", spec := "call1Forms", apart := false }
def Call1FormsSaid : Prop := call1FormsRow.holds Try.pinned (OpenSpec.ofChange call1FormsSpec)

/-- ITS FALSE NEIGHBOUR: 'it returns false'. Refute it at one input. -/
def call1FormsWrong : ChangeSpec := { name := "call1Forms", fn := fun _ => fun
  | [] => { results := [.lit (.bool false)], args := [] }
  | _ => none }
def Call1FormsWrongFalsely : Prop := call1FormsRow.holds Try.pinned (OpenSpec.ofChange call1FormsWrong)

/-- 'transomlaw21.Call2Forms': WHATEVER THE INPUT: true; the input reads as it did. -/
def call2FormsSpec : ChangeSpec := { name := "call2Forms", fn := fun _ => fun
  | [] => { results := [.lit (.bool true)], args := [] }
  | _ => none }
def call2FormsRow : OpenClaim := { program := "ytnoeanngdhaobaa", sum := "da1ff0ed307ff2734a201a09bde57d662850d6793fad96dc80ed918465c23815", func := "transom/transomlaw21.Call2Forms", spec := "call2Forms", unfollowed := true, recurses := true, apart := false }
def Call2FormsSaid : Prop := call2FormsRow.holds Try.pinned (OpenSpec.ofChange call2FormsSpec)

/-- ITS FALSE NEIGHBOUR: 'it returns false'. Refute it at one input. -/
def call2FormsWrong : ChangeSpec := { name := "call2Forms", fn := fun _ => fun
  | [] => { results := [.lit (.bool false)], args := [] }
  | _ => none }
def Call2FormsWrongFalsely : Prop := call2FormsRow.holds Try.pinned (OpenSpec.ofChange call2FormsWrong)

/-- 'transomlaw17.Object1Bounds': WHATEVER THE INPUT: true; the input reads as it did. -/
def object1BoundsSpec : ChangeSpec := { name := "object1Bounds", fn := fun _ => fun
  | [] => { results := [.lit (.bool true)], args := [] }
  | _ => none }
def object1BoundsRow : OpenClaim := { program := "ytnoeanngdhaobaa", sum := "da1ff0ed307ff2734a201a09bde57d662850d6793fad96dc80ed918465c23815", func := "transom/transomlaw17.Object1Bounds", spec := "object1Bounds", unfollowed := true, recurses := true, apart := false }
def Object1BoundsSaid : Prop := object1BoundsRow.holds Try.pinned (OpenSpec.ofChange object1BoundsSpec)

/-- ITS FALSE NEIGHBOUR: 'it returns false'. Refute it at one input. -/
def object1BoundsWrong : ChangeSpec := { name := "object1Bounds", fn := fun _ => fun
  | [] => { results := [.lit (.bool false)], args := [] }
  | _ => none }
def Object1BoundsWrongFalsely : Prop := object1BoundsRow.holds Try.pinned (OpenSpec.ofChange object1BoundsWrong)

/-- 'transomlaw18.Object2Bounds': WHATEVER THE INPUT: true; the input reads as it did. -/
def object2BoundsSpec : ChangeSpec := { name := "object2Bounds", fn := fun _ => fun
  | [] => { results := [.lit (.bool true)], args := [] }
  | _ => none }
def object2BoundsRow : OpenClaim := { program := "ytnoeanngdhaobaa", sum := "da1ff0ed307ff2734a201a09bde57d662850d6793fad96dc80ed918465c23815", func := "transom/transomlaw18.Object2Bounds", spec := "object2Bounds", unfollowed := true, recurses := true, apart := false }
def Object2BoundsSaid : Prop := object2BoundsRow.holds Try.pinned (OpenSpec.ofChange object2BoundsSpec)

/-- ITS FALSE NEIGHBOUR: 'it returns false'. Refute it at one input. -/
def object2BoundsWrong : ChangeSpec := { name := "object2Bounds", fn := fun _ => fun
  | [] => { results := [.lit (.bool false)], args := [] }
  | _ => none }
def Object2BoundsWrongFalsely : Prop := object2BoundsRow.holds Try.pinned (OpenSpec.ofChange object2BoundsWrong)

/-- 'transomlaw26.WalkForms': WHATEVER THE INPUT: true; the input reads as it did. -/
def walkFormsSpec : ChangeSpec := { name := "walkForms", fn := fun _ => fun
  | [] => { results := [.lit (.bool true)], args := [] }
  | _ => none }
def walkFormsRow : OpenClaim := { program := "ytnoeanngdhaobaa", sum := "da1ff0ed307ff2734a201a09bde57d662850d6793fad96dc80ed918465c23815", func := "transom/transomlaw26.WalkForms", spec := "walkForms", recurses := true, apart := false }
def WalkFormsSaid : Prop := walkFormsRow.holds Try.pinned (OpenSpec.ofChange walkFormsSpec)

/-- ITS FALSE NEIGHBOUR: 'it returns false'. Refute it at one input. -/
def walkFormsWrong : ChangeSpec := { name := "walkForms", fn := fun _ => fun
  | [] => { results := [.lit (.bool false)], args := [] }
  | _ => none }
def WalkFormsWrongFalsely : Prop := walkFormsRow.holds Try.pinned (OpenSpec.ofChange walkFormsWrong)

/- THE SECOND FORM. 'bulk': how many values and letters a reading holds, each counted each time it is reached (what is shared counts as often as it is met; a slice's spare places count too). A statement '..UptoSaid' is the law's where the arguments, and the package variables that the reading takes, are together of bulk at most 1048576: NARROWER than '..Said'. Prove '..Said' where nothing that the law and all that it calls make is longer than what came in: it says more and counts as full. Else prove '..UptoSaid'. A law counts once. -/
mutual
def uptoBulk {H : Type} : DataW H → Nat
  | .lit (.string bytes) => bytes.length + 1
  | .lit _ => 1
  | .nil => 1
  | .ptr d => uptoBulk d + 1
  | .slice elems spare => uptoBulkAll elems + uptoBulkAll spare + 1
  | .agg parts => uptoBulkAll parts + 1
  | .iface _ d => uptoBulk d + 1
  | .map entries => uptoBulkEntries entries + 1
  | .held _ => 1
def uptoBulkAll {H : Type} : List (DataW H) → Nat
  | [] => 0
  | d :: r => uptoBulk d + uptoBulkAll r
def uptoBulkEntries {H : Type} : List (Lit × DataW H) → Nat
  | [] => 0
  | x :: r => uptoBulkEntry x + uptoBulkEntries r
def uptoBulkEntry {H : Type} : Lit × DataW H → Nat
  | (.string bytes, d) => bytes.length + uptoBulk d + 1
  | (_, d) => uptoBulk d + 1
 end
def uptoSmall : (H : Type) → List (DataW H) → Bool := fun _ ds => decide (uptoBulkAll ds ≤ 1048576)
def OpenSpec.upto (s : _root_.Go.ChangeSpec) : _root_.Go.OpenSpec := { _root_.Go.OpenSpec.ofChange s with cond := some uptoSmall }

/-- 'transomlaw4.CatsForms', WHERE WHAT IT READS IS OF BULK AT MOST 1048576: true; the input reads as it did. -/
def catsFormsUptoRow : OpenClaim := { program := "ytnoeanngdhaobaa", sum := "da1ff0ed307ff2734a201a09bde57d662850d6793fad96dc80ed918465c23815", func := "transom/transomlaw4.CatsForms", spec := "catsForms", unfollowed := true, recurses := true, apart := false, narrowed := true }
def CatsFormsUptoSaid : Prop := catsFormsUptoRow.holds Try.pinned (OpenSpec.upto catsFormsSpec)

/-- 'transomlaw16.RingForms', WHERE WHAT IT READS IS OF BULK AT MOST 1048576: true; the input reads as it did. -/
def ringFormsUptoRow : OpenClaim := { program := "ytnoeanngdhaobaa", sum := "da1ff0ed307ff2734a201a09bde57d662850d6793fad96dc80ed918465c23815", func := "transom/transomlaw16.RingForms", spec := "ringForms", unfollowed := true, recurses := true, apart := false, narrowed := true }
def RingFormsUptoSaid : Prop := ringFormsUptoRow.holds Try.pinned (OpenSpec.upto ringFormsSpec)

/-- 'transomlaw20.Call1Forms', WHERE WHAT IT READS IS OF BULK AT MOST 1048576: true; the input reads as it did. -/
def call1FormsUptoRow : OpenClaim := { program := "ytnoeanngdhaobaa", sum := "da1ff0ed307ff2734a201a09bde57d662850d6793fad96dc80ed918465c23815", func := "transom/transomlaw20.Call1Forms", spec := "call1Forms", apart := false, narrowed := true }
def Call1FormsUptoSaid : Prop := call1FormsUptoRow.holds Try.pinned (OpenSpec.upto call1FormsSpec)

/-- 'transomlaw21.Call2Forms', WHERE WHAT IT READS IS OF BULK AT MOST 1048576: true; the input reads as it did. -/
def call2FormsUptoRow : OpenClaim := { program := "ytnoeanngdhaobaa", sum := "da1ff0ed307ff2734a201a09bde57d662850d6793fad96dc80ed918465c23815", func := "transom/transomlaw21.Call2Forms", spec := "call2Forms", unfollowed := true, recurses := true, apart := false, narrowed := true }
def Call2FormsUptoSaid : Prop := call2FormsUptoRow.holds Try.pinned (OpenSpec.upto call2FormsSpec)

/-- 'transomlaw17.Object1Bounds', WHERE WHAT IT READS IS OF BULK AT MOST 1048576: true; the input reads as it did. -/
def object1BoundsUptoRow : OpenClaim := { program := "ytnoeanngdhaobaa", sum := "da1ff0ed307ff2734a201a09bde57d662850d6793fad96dc80ed918465c23815", func := "transom/transomlaw17.Object1Bounds", spec := "object1Bounds", unfollowed := true, recurses := true, apart := false, narrowed := true }
def Object1BoundsUptoSaid : Prop := object1BoundsUptoRow.holds Try.pinned (OpenSpec.upto object1BoundsSpec)

/-- 'transomlaw18.Object2Bounds', WHERE WHAT IT READS IS OF BULK AT MOST 1048576: true; the input reads as it did. -/
def object2BoundsUptoRow : OpenClaim := { program := "ytnoeanngdhaobaa", sum := "da1ff0ed307ff2734a201a09bde57d662850d6793fad96dc80ed918465c23815", func := "transom/transomlaw18.Object2Bounds", spec := "object2Bounds", unfollowed := true, recurses := true, apart := false, narrowed := true }
def Object2BoundsUptoSaid : Prop := object2BoundsUptoRow.holds Try.pinned (OpenSpec.upto object2BoundsSpec)

/-- 'transomlaw26.WalkForms', WHERE WHAT IT READS IS OF BULK AT MOST 1048576: true; the input reads as it did. -/
def walkFormsUptoRow : OpenClaim := { program := "ytnoeanngdhaobaa", sum := "da1ff0ed307ff2734a201a09bde57d662850d6793fad96dc80ed918465c23815", func := "transom/transomlaw26.WalkForms", spec := "walkForms", recurses := true, apart := false, narrowed := true }
def WalkFormsUptoSaid : Prop := walkFormsUptoRow.holds Try.pinned (OpenSpec.upto walkFormsSpec)

end Rows
end Go.Proofs.Ytnoeanngdhaobaa
