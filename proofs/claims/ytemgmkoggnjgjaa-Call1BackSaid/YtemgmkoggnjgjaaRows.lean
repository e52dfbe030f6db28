/-
  No cell of these rows narrows 'for every input' (looked for: loops, veiled, ifaces, maps, wideKeys, modest, calm, conditions, laid).
  DERIVED. THE GIVEN ROWS OF THIS SEAT. 4 by the template 'for every input the law returns true; each argument reads behind the call as it read before'; 0 by the template 'total and deterministic' (their statements: YtemgmkoggnjgjaaTotals.lean).
  GIVEN WITH THE SEED: the statements are not yours to turn. If you find one false, say at which input.
  Laid BY PROGRAM, IN A SANDBOX (cutbox-rows.mjs): the forced cells as the released guide's own fill.sh prints them over the translation 4ff215d6288955cd… (all of the seat's roots in one cut). By AI agents, Wed Nov 11 2026. No macro, syntax, notation, axiom, sorry.
-/
import Derived.Test.YtemgmkoggnjgjaaChecked
import GoSem.Claim
import GoSem.ClaimJoined
import GoSem.ClaimMapViews
import Derived.JoinedTies
import Derived.KernelRfl
namespace Go.Proofs.Ytemgmkoggnjgjaa
/- THE CELL 'sum', in the pinned program and in every row, IS THE sha256 OF THE DUMP (.gsa) THAT YtemgmkoggnjgjaaProg.lean LOADS. Nothing in Lean hashes anything: it is a label: what it is worth is what the hold of that sum in a sandbox is worth. -/
noncomputable def Try.pinned : Pinned := { name := "ytemgmkoggnjgjaa", sum := "4ff215d6288955cd82cc15229e8ef4e83ebae3b1800f73a737de33b642601326", checked := Try.checked }
namespace Rows
def none {H : Type} : Left H := { results := [], args := [] }

/-- 'transomlaw20.Call1Back': WHATEVER THE INPUT: true; the input reads as it did. -/
def call1BackSpec : ChangeSpec := { name := "call1Back", fn := fun _ => fun
  | [d1, d2, d3] => { results := [.lit (.bool true)], args := [d1, d2, d3] }
  | _ => none }
def call1BackRow : OpenClaim := { program := "ytemgmkoggnjgjaa", sum := "4ff215d6288955cd82cc15229e8ef4e83ebae3b1800f73a737de33b642601326", func := "transom/transomlaw20.Call1Back", spec := "call1Back", apart := false }
def Call1BackSaid : Prop := call1BackRow.holds Try.pinned (OpenSpec.ofChange call1BackSpec)

/-- ITS FALSE NEIGHBOUR: 'it returns false'. Refute it at one input. -/
def call1BackWrong : ChangeSpec := { name := "call1Back", fn := fun _ => fun
  | [d1, d2, d3] => { results := [.lit (.bool false)], args := [d1, d2, d3] }
  | _ => none }
def Call1BackWrongFalsely : Prop := call1BackRow.holds Try.pinned (OpenSpec.ofChange call1BackWrong)

/-- 'transomlaw17.Object1All': WHATEVER THE INPUT: true; the input reads as it did. -/
def object1AllSpec : ChangeSpec := { name := "object1All", fn := fun _ => fun
  | [d] => { results := [.lit (.bool true)], args := [d] }
  | _ => none }
def object1AllRow : OpenClaim := { program := "ytemgmkoggnjgjaa", sum := "4ff215d6288955cd82cc15229e8ef4e83ebae3b1800f73a737de33b642601326", func := "transom/transomlaw17.Object1All", spec := "object1All", unfollowed := true, recurses := true, apart := false }
def Object1AllSaid : Prop := object1AllRow.holds Try.pinned (OpenSpec.ofChange object1AllSpec)

/-- ITS FALSE NEIGHBOUR: 'it returns false'. Refute it at one input. -/
def object1AllWrong : ChangeSpec := { name := "object1All", fn := fun _ => fun
  | [d] => { results := [.lit (.bool false)], args := [d] }
  | _ => none }
def Object1AllWrongFalsely : Prop := object1AllRow.holds Try.pinned (OpenSpec.ofChange object1AllWrong)

/-- 'transomlaw17.Object1Back': WHATEVER THE INPUT: true; the input reads as it did. -/
def object1BackSpec : ChangeSpec := { name := "object1Back", fn := fun _ => fun
  | [d1, d2, d3, d4] => { results := [.lit (.bool true)], args := [d1, d2, d3, d4] }
  | _ => none }
def object1BackRow : OpenClaim := { program := "ytemgmkoggnjgjaa", sum := "4ff215d6288955cd82cc15229e8ef4e83ebae3b1800f73a737de33b642601326", func := "transom/transomlaw17.Object1Back", spec := "object1Back", unfollowed := true, recurses := true, apart := false }
def Object1BackSaid : Prop := object1BackRow.holds Try.pinned (OpenSpec.ofChange object1BackSpec)

/-- ITS FALSE NEIGHBOUR: 'it returns false'. Refute it at one input. -/
def object1BackWrong : ChangeSpec := { name := "object1Back", fn := fun _ => fun
  | [d1, d2, d3, d4] => { results := [.lit (.bool false)], args := [d1, d2, d3, d4] }
  | _ => none }
def Object1BackWrongFalsely : Prop := object1BackRow.holds Try.pinned (OpenSpec.ofChange object1BackWrong)

/-- 'transomlaw17.Object1Kinds': WHATEVER THE INPUT: true; the input reads as it did. -/
def object1KindsSpec : ChangeSpec := { name := "object1Kinds", fn := fun _ => fun
  | [d1, d2, d3, d4, d5, d6] => { results := [.lit (.bool true)], args := [d1, d2, d3, d4, d5, d6] }
  | _ => none }
def object1KindsRow : OpenClaim := { program := "ytemgmkoggnjgjaa", sum := "4ff215d6288955cd82cc15229e8ef4e83ebae3b1800f73a737de33b642601326", func := "transom/transomlaw17.Object1Kinds", spec := "object1Kinds", unfollowed := true, recurses := true, apart := false }
def Object1KindsSaid : Prop := object1KindsRow.holds Try.pinned (OpenSpec.ofChange object1KindsSpec)

/-- ITS FALSE NEIGHBOUR: 'it returns false'. Refute it at one input. -/
def object1KindsWrong : ChangeSpec := { name := "object1Kinds", fn := fun _ => fun
  | [d1, d2, d3, d4, d5, d6] => { results := [.lit (.bool false)], args := [d1, d2, d3, d4, d5, d6] }
  | _ => none }
def Object1KindsWrongFalsely : Prop := object1KindsRow.holds Try.pinned (OpenSpec.ofChange object1KindsWrong)

/- THE SECOND FORM. 'bulk': how many values and letters a reading holds, each counted each time it is reached (what is shared counts as often as it is met; a slice's spare places count too). A statement '..UptoSaid' is the law's where the arguments, and the package variables that the reading takes, are together of bulk at most 1048576: NARROWER than '..Said'. Prove '..Said' where nothing that the law and all that it calls make is longer than what came in: it says more and counts as full. Else prove '..UptoSaid'. A law counts once. -/
mutual
def uptoBulk {H : Type} : DataW H → Nat
  | .lit (.string bytes) => bytes.length + 1
  | .lit _ => 1
  | .nil => 1
  | .ptr d => uptoBulk d + 1
  | .slice elems spare => uptoBulkAll elems + uptoBulkAll spare + 1
  | .agg parts => uptoBulkAll parts + 1
  | .iface _ d => uptoBulk d + 1
  | .map entries => uptoBulkEntries entries + 1
  | .held _ => 1
def uptoBulkAll {H : Type} : List (DataW H) → Nat
  | [] => 0
  | d :: r => uptoBulk d + uptoBulkAll r
def uptoBulkEntries {H : Type} : List (Lit × DataW H) → Nat
  | [] => 0
  | x :: r => uptoBulkEntry x + uptoBulkEntries r
def uptoBulkEntry {H : Type} : Lit × DataW H → Nat
  | (.string bytes, d) => bytes.length + uptoBulk d + 1
  | (_, d) => uptoBulk d + 1
 end
def uptoSmall : (H : Type) → List (DataW H) → Bool := fun _ ds => decide (uptoBulkAll ds ≤ 1048576)
def OpenSpec.upto (s : _root_.Go.ChangeSpec) : _root_.Go.OpenSpec := { _root_.Go.OpenSpec.ofChange s with cond := some uptoSmall }

/-- 'transomlaw20.Call1Back', WHERE WHAT IT READS IS OF BULK AT MOST 1048576: true; the input reads as it did. -/
def call1BackUptoRow : OpenClaim := { program := "ytemgmkoggnjgjaa", sum := "4ff215d6288955cd82cc15229e8ef4e83ebae3b1800f73a737de33b642601326", func := "transom/transomlaw20.Call1Back", spec := "call1Back", apart := false, narrowed := true }
def Call1BackUptoSaid : Prop := call1BackUptoRow.holds Try.pinned (OpenSpec.upto call1BackSpec)

/-- 'transomlaw17.Object1All', WHERE WHAT IT READS IS OF BULK AT MOST 1048576: true; the input reads as it did. -/
def object1AllUptoRow : OpenClaim := { program := "ytemgmkoggnjgjaa", sum := "4ff215d6288955cd82cc15229e8ef4e83ebae3b1800f73a737de33b642601326", func := "transom/transomlaw17.Object1All", spec := "object1All", unfollowed := true, recurses := true, apart := false, narrowed := true }
def Object1AllUptoSaid : Prop := object1AllUptoRow.holds Try.pinned (OpenSpec.upto object1AllSpec)

/-- 'transomlaw17.Object1Back', WHERE WHAT IT READS IS OF BULK AT MOST 1048576: true; the input reads as it did. -/
def object1BackUptoRow : OpenClaim := { program := "ytemgmkoggnjgjaa", sum := "4ff215d6288955cd82cc15229e8ef4e83ebae3b1800f73a737de33b642601326", func := "transom/transomlaw17.Object1Back", spec := "object1Back", unfollowed := true, recurses := true, apart := false, narrowed := true }
def Object1BackUptoSaid : Prop := object1BackUptoRow.holds Try.pinned (OpenSpec.upto object1BackSpec)

/-- 'transomlaw17.Object1Kinds', WHERE WHAT IT READS IS OF BULK AT MOST 1048576: true; the input reads as it did. -/
def object1KindsUptoRow : OpenClaim := { program := "ytemgmkoggnjgjaa", sum := "4ff215d6288955cd82cc15229e8ef4e83ebae3b1800f73a737de33b642601326", func := "transom/transomlaw17.Object1Kinds", spec := "object1Kinds", unfollowed := true, recurses := true, apart := false, narrowed := true }
def Object1KindsUptoSaid : Prop := object1KindsUptoRow.holds Try.pinned (OpenSpec.upto object1KindsSpec)

end Rows
end Go.Proofs.Ytemgmkoggnjgjaa
