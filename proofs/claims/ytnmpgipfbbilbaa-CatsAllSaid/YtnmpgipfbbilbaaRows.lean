/-
  No cell of these rows narrows 'for every input' (looked for: loops, veiled, ifaces, maps, wideKeys, modest, calm, conditions, laid).
  DERIVED. THE GIVEN ROWS OF THIS SEAT. 5 by the template 'for every input the law returns true; each argument reads behind the call as it read before'; 0 by the template 'total and deterministic' (their statements: YtnmpgipfbbilbaaTotals.lean).
  GIVEN WITH THE SEED: the statements are not yours to turn. If you find one false, say at which input.
  Laid BY PROGRAM, IN A SANDBOX (cutbox-rows.mjs): the forced cells as the released guide's own fill.sh prints them over the translation 0d7254ff1cd192de… (all of the seat's roots in one cut). By AI agents, Wed Nov 11 2026. No macro, syntax, notation, axiom, sorry.
-/
import Derived.Test.YtnmpgipfbbilbaaChecked
import GoSem.Claim
import GoSem.ClaimJoined
import GoSem.ClaimMapViews
import Derived.JoinedTies
import Derived.KernelRfl
namespace Go.Proofs.Ytnmpgipfbbilbaa
/- THE CELL 'sum', in the pinned program and in every row, IS THE sha256 OF THE DUMP (.gsa) THAT YtnmpgipfbbilbaaProg.lean LOADS. Nothing in Lean hashes anything: it is a label: what it is worth is what the hold of that sum in a sandbox is worth. -/
noncomputable def Try.pinned : Pinned := { name := "ytnmpgipfbbilbaa", sum := "0d7254ff1cd192de3c386d38d8d2d875b89c000163058c6a48c2d47145f196c3", checked := Try.checked }
namespace Rows
def none {H : Type} : Left H := { results := [], args := [] }

/-- 'transomlaw4.CatsMake': WHATEVER THE INPUT: true; the input reads as it did. -/
def catsMakeSpec : ChangeSpec := { name := "catsMake", fn := fun _ => fun
  | [d] => { results := [.lit (.bool true)], args := [d] }
  | _ => none }
def catsMakeRow : OpenClaim := { program := "ytnmpgipfbbilbaa", sum := "0d7254ff1cd192de3c386d38d8d2d875b89c000163058c6a48c2d47145f196c3", func := "transom/transomlaw4.CatsMake", spec := "catsMake", unfollowed := true, recurses := true, apart := false }
def CatsMakeSaid : Prop := catsMakeRow.holds Try.pinned (OpenSpec.ofChange catsMakeSpec)

/-- ITS FALSE NEIGHBOUR: 'it returns false'. Refute it at one input. -/
def catsMakeWrong : ChangeSpec := { name := "catsMake", fn := fun _ => fun
  | [d] => { results := [.lit (.bool false)], args := [d] }
  | _ => none }
def CatsMakeWrongFalsely : Prop := catsMakeRow.holds Try.pinned (OpenSpec.ofChange catsMakeWrong)

/-- 'transomlaw4.CatsBack': WHATEVER THE INPUT: true; the input reads as it did. -/
def catsBackSpec : ChangeSpec := { name := "catsBack", fn := fun _ => fun
  | [d1, d2, d3, d4] => { results := [.lit (.bool true)], args := [d1, d2, d3, d4] }
  | _ => none }
def catsBackRow : OpenClaim := { program := "ytnmpgipfbbilbaa", sum := "0d7254ff1cd192de3c386d38d8d2d875b89c000163058c6a48c2d47145f196c3", func := "transom/transomlaw4.CatsBack", spec := "catsBack", unfollowed := true, recurses := true, apart := false }
def CatsBackSaid : Prop := catsBackRow.holds Try.pinned (OpenSpec.ofChange catsBackSpec)

/-- ITS FALSE NEIGHBOUR: 'it returns false'. Refute it at one input. -/
def catsBackWrong : ChangeSpec := { name := "catsBack", fn := fun _ => fun
  | [d1, d2, d3, d4] => { results := [.lit (.bool false)], args := [d1, d2, d3, d4] }
  | _ => none }
def CatsBackWrongFalsely : Prop := catsBackRow.holds Try.pinned (OpenSpec.ofChange catsBackWrong)

/-- 'transomlaw4.CatsAll': WHATEVER THE INPUT: true; the input reads as it did. -/
def catsAllSpec : ChangeSpec := { name := "catsAll", fn := fun _ => fun
  | [d1, d2, d3] => { results := [.lit (.bool true)], args := [d1, d2, d3] }
  | _ => none }
def catsAllRow : OpenClaim := { program := "ytnmpgipfbbilbaa", sum := "0d7254ff1cd192de3c386d38d8d2d875b89c000163058c6a48c2d47145f196c3", func := "transom/transomlaw4.CatsAll", spec := "catsAll", unfollowed := true, recurses := true, apart := false }
def CatsAllSaid : Prop := catsAllRow.holds Try.pinned (OpenSpec.ofChange catsAllSpec)

/-- ITS FALSE NEIGHBOUR: 'it returns false'. Refute it at one input. -/
def catsAllWrong : ChangeSpec := { name := "catsAll", fn := fun _ => fun
  | [d1, d2, d3] => { results := [.lit (.bool false)], args := [d1, d2, d3] }
  | _ => none }
def CatsAllWrongFalsely : Prop := catsAllRow.holds Try.pinned (OpenSpec.ofChange catsAllWrong)

/-- 'transomlaw4.CatsLattice': WHATEVER THE INPUT: true; the input reads as it did. -/
def catsLatticeSpec : ChangeSpec := { name := "catsLattice", fn := fun _ => fun
  | [d1, d2, d3] => { results := [.lit (.bool true)], args := [d1, d2, d3] }
  | _ => none }
def catsLatticeRow : OpenClaim := { program := "ytnmpgipfbbilbaa", sum := "0d7254ff1cd192de3c386d38d8d2d875b89c000163058c6a48c2d47145f196c3", func := "transom/transomlaw4.CatsLattice", spec := "catsLattice", unfollowed := true, recurses := true, apart := false }
def CatsLatticeSaid : Prop := catsLatticeRow.holds Try.pinned (OpenSpec.ofChange catsLatticeSpec)

/-- ITS FALSE NEIGHBOUR: 'it returns false'. Refute it at one input. -/
def catsLatticeWrong : ChangeSpec := { name := "catsLattice", fn := fun _ => fun
  | [d1, d2, d3] => { results := [.lit (.bool false)], args := [d1, d2, d3] }
  | _ => none }
def CatsLatticeWrongFalsely : Prop := catsLatticeRow.holds Try.pinned (OpenSpec.ofChange catsLatticeWrong)

/-- 'transomlaw4.CatsCount': WHATEVER THE INPUT: true; the input reads as it did. -/
def catsCountSpec : ChangeSpec := { name := "catsCount", fn := fun _ => fun
  | [d1, d2, d3] => { results := [.lit (.bool true)], args := [d1, d2, d3] }
  | _ => none }
def catsCountRow : OpenClaim := { program := "ytnmpgipfbbilbaa", sum := "0d7254ff1cd192de3c386d38d8d2d875b89c000163058c6a48c2d47145f196c3", func := "transom/transomlaw4.CatsCount", spec := "catsCount", unfollowed := true, recurses := true, apart := false }
def CatsCountSaid : Prop := catsCountRow.holds Try.pinned (OpenSpec.ofChange catsCountSpec)

/-- ITS FALSE NEIGHBOUR: 'it returns false'. Refute it at one input. -/
def catsCountWrong : ChangeSpec := { name := "catsCount", fn := fun _ => fun
  | [d1, d2, d3] => { results := [.lit (.bool false)], args := [d1, d2, d3] }
  | _ => none }
def CatsCountWrongFalsely : Prop := catsCountRow.holds Try.pinned (OpenSpec.ofChange catsCountWrong)

/- THE SECOND FORM. 'bulk': how many values and letters a reading holds, each counted each time it is reached (what is shared counts as often as it is met; a slice's spare places count too). A statement '..UptoSaid' is the law's where the arguments, and the package variables that the reading takes, are together of bulk at most 1048576: NARROWER than '..Said'. Prove '..Said' where nothing that the law and all that it calls make is longer than what came in: it says more and counts as full. Else prove '..UptoSaid'. A law counts once. -/
mutual
def uptoBulk {H : Type} : DataW H → Nat
  | .lit (.string bytes) => bytes.length + 1
  | .lit _ => 1
  | .nil => 1
  | .ptr d => uptoBulk d + 1
  | .slice elems spare => uptoBulkAll elems + uptoBulkAll spare + 1
  | .agg parts => uptoBulkAll parts + 1
  | .iface _ d => uptoBulk d + 1
  | .map entries => uptoBulkEntries entries + 1
  | .held _ => 1
def uptoBulkAll {H : Type} : List (DataW H) → Nat
  | [] => 0
  | d :: r => uptoBulk d + uptoBulkAll r
def uptoBulkEntries {H : Type} : List (Lit × DataW H) → Nat
  | [] => 0
  | x :: r => uptoBulkEntry x + uptoBulkEntries r
def uptoBulkEntry {H : Type} : Lit × DataW H → Nat
  | (.string bytes, d) => bytes.length + uptoBulk d + 1
  | (_, d) => uptoBulk d + 1
 end
def uptoSmall : (H : Type) → List (DataW H) → Bool := fun _ ds => decide (uptoBulkAll ds ≤ 1048576)
def OpenSpec.upto (s : _root_.Go.ChangeSpec) : _root_.Go.OpenSpec := { _root_.Go.OpenSpec.ofChange s with cond := some uptoSmall }

/-- 'transomlaw4.CatsMake', WHERE WHAT IT READS IS OF BULK AT MOST 1048576: true; the input reads as it did. -/
def catsMakeUptoRow : OpenClaim := { program := "ytnmpgipfbbilbaa", sum := "0d7254ff1cd192de3c386d38d8d2d875b89c000163058c6a48c2d47145f196c3", func := "transom/transomlaw4.CatsMake", spec := "catsMake", unfollowed := true, recurses := true, apart := false, narrowed := true }
def CatsMakeUptoSaid : Prop := catsMakeUptoRow.holds Try.pinned (OpenSpec.upto catsMakeSpec)

/-- 'transomlaw4.CatsBack', WHERE WHAT IT READS IS OF BULK AT MOST 1048576: true; the input reads as it did. -/
def catsBackUptoRow : OpenClaim := { program := "ytnmpgipfbbilbaa", sum := "0d7254ff1cd192de3c386d38d8d2d875b89c000163058c6a48c2d47145f196c3", func := "transom/transomlaw4.CatsBack", spec := "catsBack", unfollowed := true, recurses := true, apart := false, narrowed := true }
def CatsBackUptoSaid : Prop := catsBackUptoRow.holds Try.pinned (OpenSpec.upto catsBackSpec)

/-- 'transomlaw4.CatsAll', WHERE WHAT IT READS IS OF BULK AT MOST 1048576: true; the input reads as it did. -/
def catsAllUptoRow : OpenClaim := { program := "ytnmpgipfbbilbaa", sum := "0d7254ff1cd192de3c386d38d8d2d875b89c000163058c6a48c2d47145f196c3", func := "transom/transomlaw4.CatsAll", spec := "catsAll", unfollowed := true, recurses := true, apart := false, narrowed := true }
def CatsAllUptoSaid : Prop := catsAllUptoRow.holds Try.pinned (OpenSpec.upto catsAllSpec)

/-- 'transomlaw4.CatsLattice', WHERE WHAT IT READS IS OF BULK AT MOST 1048576: true; the input reads as it did. -/
def catsLatticeUptoRow : OpenClaim := { program := "ytnmpgipfbbilbaa", sum := "0d7254ff1cd192de3c386d38d8d2d875b89c000163058c6a48c2d47145f196c3", func := "transom/transomlaw4.CatsLattice", spec := "catsLattice", unfollowed := true, recurses := true, apart := false, narrowed := true }
def CatsLatticeUptoSaid : Prop := catsLatticeUptoRow.holds Try.pinned (OpenSpec.upto catsLatticeSpec)

/-- 'transomlaw4.CatsCount', WHERE WHAT IT READS IS OF BULK AT MOST 1048576: true; the input reads as it did. -/
def catsCountUptoRow : OpenClaim := { program := "ytnmpgipfbbilbaa", sum := "0d7254ff1cd192de3c386d38d8d2d875b89c000163058c6a48c2d47145f196c3", func := "transom/transomlaw4.CatsCount", spec := "catsCount", unfollowed := true, recurses := true, apart := false, narrowed := true }
def CatsCountUptoSaid : Prop := catsCountUptoRow.holds Try.pinned (OpenSpec.upto catsCountSpec)

end Rows
end Go.Proofs.Ytnmpgipfbbilbaa
