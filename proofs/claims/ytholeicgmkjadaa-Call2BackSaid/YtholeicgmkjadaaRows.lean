/-
  No cell of these rows narrows 'for every input' (looked for: loops, veiled, ifaces, maps, wideKeys, modest, calm, conditions, laid).
  DERIVED. THE GIVEN ROWS OF THIS SEAT. 5 by the template 'for every input the law returns true; each argument reads behind the call as it read before'; 0 by the template 'total and deterministic' (their statements: YtholeicgmkjadaaTotals.lean).
  GIVEN WITH THE SEED: the statements are not yours to turn. If you find one false, say at which input.
  Laid BY PROGRAM, IN A SANDBOX (cutbox-rows.mjs): the forced cells as the released guide's own fill.sh prints them over the translation d7b15af2239fba8b… (all of the seat's roots in one cut). By AI agents, Wed Nov 11 2026. No macro, syntax, notation, axiom, sorry.
-/
import Derived.Test.YtholeicgmkjadaaChecked
import GoSem.Claim
import GoSem.ClaimJoined
import GoSem.ClaimMapViews
import Derived.JoinedTies
import Derived.KernelRfl
namespace Go.Proofs.Ytholeicgmkjadaa
/- THE CELL 'sum', in the pinned program and in every row, IS THE sha256 OF THE DUMP (.gsa) THAT YtholeicgmkjadaaProg.lean LOADS. Nothing in Lean hashes anything: it is a label: what it is worth is what the hold of that sum in a sandbox is worth. -/
noncomputable def Try.pinned : Pinned := { name := "ytholeicgmkjadaa", sum := "d7b15af2239fba8b39395e42b308b2fbc86eb4e9a6ef8f2f44333fd3f7d1791f", checked := Try.checked }
namespace Rows
def none {H : Type} : Left H := { results := [], args := [] }

/-- 'transomlaw21.Call2Back': WHATEVER THE INPUT: true; the input reads as it did. -/
def call2BackSpec : ChangeSpec := { name := "call2Back", fn := fun _ => fun
  | [d1, d2, d3] => { results := [.lit (.bool true)], args := [d1, d2, d3] }
  | _ => none }
def call2BackRow : OpenClaim := { program := "ytholeicgmkjadaa", sum := "d7b15af2239fba8b39395e42b308b2fbc86eb4e9a6ef8f2f44333fd3f7d1791f", func := "transom/transomlaw21.Call2Back", spec := "call2Back", unfollowed := true, recurses := true, apart := false }
def Call2BackSaid : Prop := call2BackRow.holds Try.pinned (OpenSpec.ofChange call2BackSpec)

/-- ITS FALSE NEIGHBOUR: 'it returns false'. Refute it at one input. -/
def call2BackWrong : ChangeSpec := { name := "call2Back", fn := fun _ => fun
  | [d1, d2, d3] => { results := [.lit (.bool false)], args := [d1, d2, d3] }
  | _ => none }
def Call2BackWrongFalsely : Prop := call2BackRow.holds Try.pinned (OpenSpec.ofChange call2BackWrong)

/-- 'transomlaw18.Object2All': WHATEVER THE INPUT: true; the input reads as it did. -/
def object2AllSpec : ChangeSpec := { name := "object2All", fn := fun _ => fun
  | [d] => { results := [.lit (.bool true)], args := [d] }
  | _ => none }
def object2AllRow : OpenClaim := { program := "ytholeicgmkjadaa", sum := "d7b15af2239fba8b39395e42b308b2fbc86eb4e9a6ef8f2f44333fd3f7d1791f", func := "transom/transomlaw18.Object2All", spec := "object2All", unfollowed := true, recurses := true, apart := false }
def Object2AllSaid : Prop := object2AllRow.holds Try.pinned (OpenSpec.ofChange object2AllSpec)

/-- ITS FALSE NEIGHBOUR: 'it returns false'. Refute it at one input. -/
def object2AllWrong : ChangeSpec := { name := "object2All", fn := fun _ => fun
  | [d] => { results := [.lit (.bool false)], args := [d] }
  | _ => none }
def Object2AllWrongFalsely : Prop := object2AllRow.holds Try.pinned (OpenSpec.ofChange object2AllWrong)

/-- 'transomlaw18.Object2Back': WHATEVER THE INPUT: true; the input reads as it did. -/
def object2BackSpec : ChangeSpec := { name := "object2Back", fn := fun _ => fun
  | [d1, d2, d3, d4] => { results := [.lit (.bool true)], args := [d1, d2, d3, d4] }
  | _ => none }
def object2BackRow : OpenClaim := { program := "ytholeicgmkjadaa", sum := "d7b15af2239fba8b39395e42b308b2fbc86eb4e9a6ef8f2f44333fd3f7d1791f", func := "transom/transomlaw18.Object2Back", spec := "object2Back", unfollowed := true, recurses := true, apart := false }
def Object2BackSaid : Prop := object2BackRow.holds Try.pinned (OpenSpec.ofChange object2BackSpec)

/-- ITS FALSE NEIGHBOUR: 'it returns false'. Refute it at one input. -/
def object2BackWrong : ChangeSpec := { name := "object2Back", fn := fun _ => fun
  | [d1, d2, d3, d4] => { results := [.lit (.bool false)], args := [d1, d2, d3, d4] }
  | _ => none }
def Object2BackWrongFalsely : Prop := object2BackRow.holds Try.pinned (OpenSpec.ofChange object2BackWrong)

/-- 'transomlaw18.Object2Kinds': WHATEVER THE INPUT: true; the input reads as it did. -/
def object2KindsSpec : ChangeSpec := { name := "object2Kinds", fn := fun _ => fun
  | [d1, d2, d3, d4, d5, d6] => { results := [.lit (.bool true)], args := [d1, d2, d3, d4, d5, d6] }
  | _ => none }
def object2KindsRow : OpenClaim := { program := "ytholeicgmkjadaa", sum := "d7b15af2239fba8b39395e42b308b2fbc86eb4e9a6ef8f2f44333fd3f7d1791f", func := "transom/transomlaw18.Object2Kinds", spec := "object2Kinds", unfollowed := true, recurses := true, apart := false }
def Object2KindsSaid : Prop := object2KindsRow.holds Try.pinned (OpenSpec.ofChange object2KindsSpec)

/-- ITS FALSE NEIGHBOUR: 'it returns false'. Refute it at one input. -/
def object2KindsWrong : ChangeSpec := { name := "object2Kinds", fn := fun _ => fun
  | [d1, d2, d3, d4, d5, d6] => { results := [.lit (.bool false)], args := [d1, d2, d3, d4, d5, d6] }
  | _ => none }
def Object2KindsWrongFalsely : Prop := object2KindsRow.holds Try.pinned (OpenSpec.ofChange object2KindsWrong)

/-- 'transomlaw4.CatsBytes': WHATEVER THE INPUT: true; the input reads as it did. -/
def catsBytesSpec : ChangeSpec := { name := "catsBytes", fn := fun _ => fun
  | [d1, d2] => { results := [.lit (.bool true)], args := [d1, d2] }
  | _ => none }
def catsBytesRow : OpenClaim := { program := "ytholeicgmkjadaa", sum := "d7b15af2239fba8b39395e42b308b2fbc86eb4e9a6ef8f2f44333fd3f7d1791f", func := "transom/transomlaw4.CatsBytes", spec := "catsBytes", unfollowed := true, recurses := true, apart := false }
def CatsBytesSaid : Prop := catsBytesRow.holds Try.pinned (OpenSpec.ofChange catsBytesSpec)

/-- ITS FALSE NEIGHBOUR: 'it returns false'. Refute it at one input. -/
def catsBytesWrong : ChangeSpec := { name := "catsBytes", fn := fun _ => fun
  | [d1, d2] => { results := [.lit (.bool false)], args := [d1, d2] }
  | _ => none }
def CatsBytesWrongFalsely : Prop := catsBytesRow.holds Try.pinned (OpenSpec.ofChange catsBytesWrong)

/- THE SECOND FORM. 'bulk': how many values and letters a reading holds, each counted each time it is reached (what is shared counts as often as it is met; a slice's spare places count too). A statement '..UptoSaid' is the law's where the arguments, and the package variables that the reading takes, are together of bulk at most 1048576: NARROWER than '..Said'. Prove '..Said' where nothing that the law and all that it calls make is longer than what came in: it says more and counts as full. Else prove '..UptoSaid'. A law counts once. -/
mutual
def uptoBulk {H : Type} : DataW H → Nat
  | .lit (.string bytes) => bytes.length + 1
  | .lit _ => 1
  | .nil => 1
  | .ptr d => uptoBulk d + 1
  | .slice elems spare => uptoBulkAll elems + uptoBulkAll spare + 1
  | .agg parts => uptoBulkAll parts + 1
  | .iface _ d => uptoBulk d + 1
  | .map entries => uptoBulkEntries entries + 1
  | .held _ => 1
def uptoBulkAll {H : Type} : List (DataW H) → Nat
  | [] => 0
  | d :: r => uptoBulk d + uptoBulkAll r
def uptoBulkEntries {H : Type} : List (Lit × DataW H) → Nat
  | [] => 0
  | x :: r => uptoBulkEntry x + uptoBulkEntries r
def uptoBulkEntry {H : Type} : Lit × DataW H → Nat
  | (.string bytes, d) => bytes.length + uptoBulk d + 1
  | (_, d) => uptoBulk d + 1
 end
def uptoSmall : (H : Type) → List (DataW H) → Bool := fun _ ds => decide (uptoBulkAll ds ≤ 1048576)
def OpenSpec.upto (s : _root_.Go.ChangeSpec) : _root_.Go.OpenSpec := { _root_.Go.OpenSpec.ofChange s with cond := some uptoSmall }

/-- 'transomlaw21.Call2Back', WHERE WHAT IT READS IS OF BULK AT MOST 1048576: true; the input reads as it did. -/
def call2BackUptoRow : OpenClaim := { program := "ytholeicgmkjadaa", sum := "d7b15af2239fba8b39395e42b308b2fbc86eb4e9a6ef8f2f44333fd3f7d1791f", func := "transom/transomlaw21.Call2Back", spec := "call2Back", unfollowed := true, recurses := true, apart := false, narrowed := true }
def Call2BackUptoSaid : Prop := call2BackUptoRow.holds Try.pinned (OpenSpec.upto call2BackSpec)

/-- 'transomlaw18.Object2All', WHERE WHAT IT READS IS OF BULK AT MOST 1048576: true; the input reads as it did. -/
def object2AllUptoRow : OpenClaim := { program := "ytholeicgmkjadaa", sum := "d7b15af2239fba8b39395e42b308b2fbc86eb4e9a6ef8f2f44333fd3f7d1791f", func := "transom/transomlaw18.Object2All", spec := "object2All", unfollowed := true, recurses := true, apart := false, narrowed := true }
def Object2AllUptoSaid : Prop := object2AllUptoRow.holds Try.pinned (OpenSpec.upto object2AllSpec)

/-- 'transomlaw18.Object2Back', WHERE WHAT IT READS IS OF BULK AT MOST 1048576: true; the input reads as it did. -/
def object2BackUptoRow : OpenClaim := { program := "ytholeicgmkjadaa", sum := "d7b15af2239fba8b39395e42b308b2fbc86eb4e9a6ef8f2f44333fd3f7d1791f", func := "transom/transomlaw18.Object2Back", spec := "object2Back", unfollowed := true, recurses := true, apart := false, narrowed := true }
def Object2BackUptoSaid : Prop := object2BackUptoRow.holds Try.pinned (OpenSpec.upto object2BackSpec)

/-- 'transomlaw18.Object2Kinds', WHERE WHAT IT READS IS OF BULK AT MOST 1048576: true; the input reads as it did. -/
def object2KindsUptoRow : OpenClaim := { program := "ytholeicgmkjadaa", sum := "d7b15af2239fba8b39395e42b308b2fbc86eb4e9a6ef8f2f44333fd3f7d1791f", func := "transom/transomlaw18.Object2Kinds", spec := "object2Kinds", unfollowed := true, recurses := true, apart := false, narrowed := true }
def Object2KindsUptoSaid : Prop := object2KindsUptoRow.holds Try.pinned (OpenSpec.upto object2KindsSpec)

/-- 'transomlaw4.CatsBytes', WHERE WHAT IT READS IS OF BULK AT MOST 1048576: true; the input reads as it did. -/
def catsBytesUptoRow : OpenClaim := { program := "ytholeicgmkjadaa", sum := "d7b15af2239fba8b39395e42b308b2fbc86eb4e9a6ef8f2f44333fd3f7d1791f", func := "transom/transomlaw4.CatsBytes", spec := "catsBytes", unfollowed := true, recurses := true, apart := false, narrowed := true }
def CatsBytesUptoSaid : Prop := catsBytesUptoRow.holds Try.pinned (OpenSpec.upto catsBytesSpec)

end Rows
end Go.Proofs.Ytholeicgmkjadaa
