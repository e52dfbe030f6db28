/-
  No cell of these rows narrows 'for every input' (looked for: loops, veiled, ifaces, maps, wideKeys, modest, calm, conditions, laid).
  DERIVED. THE GIVEN ROWS OF THIS SEAT. 7 by the template 'for every input the law returns true; each argument reads behind the call as it read before'; 0 by the template 'total and deterministic' (their statements: YthfgocinlbogeaaTotals.lean).
  GIVEN WITH THE SEED: the statements are not yours to turn. If you find one false, say at which input.
  Laid BY PROGRAM, IN A SANDBOX (cutbox-rows.mjs): the forced cells as the released guide's own fill.sh prints them over the translation 4395ccc95ce93bf9… (all of the seat's roots in one cut). By AI agents, Wed Nov 11 2026. No macro, syntax, notation, axiom, sorry.
-/
import Derived.Test.YthfgocinlbogeaaChecked
import GoSem.Claim
import GoSem.ClaimJoined
import GoSem.ClaimMapViews
import Derived.JoinedTies
import Derived.KernelRfl
namespace Go.Proofs.Ythfgocinlbogeaa
/- THE CELL 'sum', in the pinned program and in every row, IS THE sha256 OF THE DUMP (.gsa) THAT YthfgocinlbogeaaProg.lean LOADS. Nothing in Lean hashes anything: it is a label: what it is worth is what the hold of that sum in a sandbox is worth. -/
noncomputable def Try.pinned : Pinned := { name := "ythfgocinlbogeaa", sum := "4395ccc95ce93bf9bc2ecd5d6b2b45dd8e3bd0a0b670184467adf4205b30fffa", checked := Try.checked }
namespace Rows
def none {H : Type} : Left H := { results := [], args := [] }

/-- 'transomlaw1.NumAll': WHATEVER THE INPUT: true; the input reads as it did. -/
def numAllSpec : ChangeSpec := { name := "numAll", fn := fun _ => fun
  | [d1, d2, d3] => { results := [.lit (.bool true)], args := [d1, d2, d3] }
  | _ => none }
def numAllRow : OpenClaim := { program := "ythfgocinlbogeaa", sum := "4395ccc95ce93bf9bc2ecd5d6b2b45dd8e3bd0a0b670184467adf4205b30fffa", func := "transom/transomlaw1.NumAll", spec := "numAll", apart := false }
def NumAllSaid : Prop := numAllRow.holds Try.pinned (OpenSpec.ofChange numAllSpec)

/-- ITS FALSE NEIGHBOUR: 'it returns false'. Refute it at one input. -/
def numAllWrong : ChangeSpec := { name := "numAll", fn := fun _ => fun
  | [d1, d2, d3] => { results := [.lit (.bool false)], args := [d1, d2, d3] }
  | _ => none }
def NumAllWrongFalsely : Prop := numAllRow.holds Try.pinned (OpenSpec.ofChange numAllWrong)

/-- 'transomlaw16.RingApart': WHATEVER THE INPUT: true; the input reads as it did. -/
def ringApartSpec : ChangeSpec := { name := "ringApart", fn := fun _ => fun
  | [d1, d2] => { results := [.lit (.bool true)], args := [d1, d2] }
  | _ => none }
def ringApartRow : OpenClaim := { program := "ythfgocinlbogeaa", sum := "4395ccc95ce93bf9bc2ecd5d6b2b45dd8e3bd0a0b670184467adf4205b30fffa", func := "transom/transomlaw16.RingApart", spec := "ringApart", unfollowed := true, recurses := true, apart := false }
def RingApartSaid : Prop := ringApartRow.holds Try.pinned (OpenSpec.ofChange ringApartSpec)

/-- ITS FALSE NEIGHBOUR: 'it returns false'. Refute it at one input. -/
def ringApartWrong : ChangeSpec := { name := "ringApart", fn := fun _ => fun
  | [d1, d2] => { results := [.lit (.bool false)], args := [d1, d2] }
  | _ => none }
def RingApartWrongFalsely : Prop := ringApartRow.holds Try.pinned (OpenSpec.ofChange ringApartWrong)

/-- 'transomlaw20.Call1Takes': WHATEVER THE INPUT: true; the input reads as it did. -/
def call1TakesSpec : ChangeSpec := { name := "call1Takes", fn := fun _ => fun
  | [d] => { results := [.lit (.bool true)], args := [d] }
  | _ => none }
def call1TakesRow : OpenClaim := { program := "ythfgocinlbogeaa", sum := "4395ccc95ce93bf9bc2ecd5d6b2b45dd8e3bd0a0b670184467adf4205b30fffa", func := "transom/transomlaw20.Call1Takes", spec := "call1Takes", apart := false }
def Call1TakesSaid : Prop := call1TakesRow.holds Try.pinned (OpenSpec.ofChange call1TakesSpec)

/-- ITS FALSE NEIGHBOUR: 'it returns false'. Refute it at one input. -/
def call1TakesWrong : ChangeSpec := { name := "call1Takes", fn := fun _ => fun
  | [d] => { results := [.lit (.bool false)], args := [d] }
  | _ => none }
def Call1TakesWrongFalsely : Prop := call1TakesRow.holds Try.pinned (OpenSpec.ofChange call1TakesWrong)

/-- 'transomlaw21.Call2Takes': WHATEVER THE INPUT: true; the input reads as it did. -/
def call2TakesSpec : ChangeSpec := { name := "call2Takes", fn := fun _ => fun
  | [d] => { results := [.lit (.bool true)], args := [d] }
  | _ => none }
def call2TakesRow : OpenClaim := { program := "ythfgocinlbogeaa", sum := "4395ccc95ce93bf9bc2ecd5d6b2b45dd8e3bd0a0b670184467adf4205b30fffa", func := "transom/transomlaw21.Call2Takes", spec := "call2Takes", unfollowed := true, recurses := true, apart := false }
def Call2TakesSaid : Prop := call2TakesRow.holds Try.pinned (OpenSpec.ofChange call2TakesSpec)

/-- ITS FALSE NEIGHBOUR: 'it returns false'. Refute it at one input. -/
def call2TakesWrong : ChangeSpec := { name := "call2Takes", fn := fun _ => fun
  | [d] => { results := [.lit (.bool false)], args := [d] }
  | _ => none }
def Call2TakesWrongFalsely : Prop := call2TakesRow.holds Try.pinned (OpenSpec.ofChange call2TakesWrong)

/-- 'transomlaw19.ArenaVersions': WHATEVER THE INPUT: true; the input reads as it did. -/
def arenaVersionsSpec : ChangeSpec := { name := "arenaVersions", fn := fun _ => fun
  | [d1, d2] => { results := [.lit (.bool true)], args := [d1, d2] }
  | _ => none }
def arenaVersionsRow : OpenClaim := { program := "ythfgocinlbogeaa", sum := "4395ccc95ce93bf9bc2ecd5d6b2b45dd8e3bd0a0b670184467adf4205b30fffa", func := "transom/transomlaw19.ArenaVersions", spec := "arenaVersions", unfollowed := true, recurses := true, apart := false }
def ArenaVersionsSaid : Prop := arenaVersionsRow.holds Try.pinned (OpenSpec.ofChange arenaVersionsSpec)

/-- ITS FALSE NEIGHBOUR: 'it returns false'. Refute it at one input. -/
def arenaVersionsWrong : ChangeSpec := { name := "arenaVersions", fn := fun _ => fun
  | [d1, d2] => { results := [.lit (.bool false)], args := [d1, d2] }
  | _ => none }
def ArenaVersionsWrongFalsely : Prop := arenaVersionsRow.holds Try.pinned (OpenSpec.ofChange arenaVersionsWrong)

/-- 'transomlaw19.ArenaOrder': WHATEVER THE INPUT: true; the input reads as it did. -/
def arenaOrderSpec : ChangeSpec := { name := "arenaOrder", fn := fun _ => fun
  | [d1, d2] => { results := [.lit (.bool true)], args := [d1, d2] }
  | _ => none }
def arenaOrderRow : OpenClaim := { program := "ythfgocinlbogeaa", sum := "4395ccc95ce93bf9bc2ecd5d6b2b45dd8e3bd0a0b670184467adf4205b30fffa", func := "transom/transomlaw19.ArenaOrder", spec := "arenaOrder", unfollowed := true, recurses := true, apart := false }
def ArenaOrderSaid : Prop := arenaOrderRow.holds Try.pinned (OpenSpec.ofChange arenaOrderSpec)

/-- ITS FALSE NEIGHBOUR: 'it returns false'. Refute it at one input. -/
def arenaOrderWrong : ChangeSpec := { name := "arenaOrder", fn := fun _ => fun
  | [d1, d2] => { results := [.lit (.bool false)], args := [d1, d2] }
  | _ => none }
def ArenaOrderWrongFalsely : Prop := arenaOrderRow.holds Try.pinned (OpenSpec.ofChange arenaOrderWrong)

/-- 'transomlaw19.ArenaAll': WHATEVER THE INPUT: true; the input reads as it did. -/
def arenaAllSpec : ChangeSpec := { name := "arenaAll", fn := fun _ => fun
  | [d1, d2] => { results := [.lit (.bool true)], args := [d1, d2] }
  | _ => none }
def arenaAllRow : OpenClaim := { program := "ythfgocinlbogeaa", sum := "4395ccc95ce93bf9bc2ecd5d6b2b45dd8e3bd0a0b670184467adf4205b30fffa", func := "transom/transomlaw19.ArenaAll", spec := "arenaAll", unfollowed := true, recurses := true, apart := false }
def ArenaAllSaid : Prop := arenaAllRow.holds Try.pinned (OpenSpec.ofChange arenaAllSpec)

/-- ITS FALSE NEIGHBOUR: 'it returns false'. Refute it at one input. -/
def arenaAllWrong : ChangeSpec := { name := "arenaAll", fn := fun _ => fun
  | [d1, d2] => { results := [.lit (.bool false)], args := [d1, d2] }
  | _ => none }
def ArenaAllWrongFalsely : Prop := arenaAllRow.holds Try.pinned (OpenSpec.ofChange arenaAllWrong)

/- THE SECOND FORM. 'bulk': how many values and letters a reading holds, each counted each time it is reached (what is shared counts as often as it is met; a slice's spare places count too). A statement '..UptoSaid' is the law's where the arguments, and the package variables that the reading takes, are together of bulk at most 1048576: NARROWER than '..Said'. Prove '..Said' where nothing that the law and all that it calls make is longer than what came in: it says more and counts as full. Else prove '..UptoSaid'. A law counts once. -/
mutual
def uptoBulk {H : Type} : DataW H → Nat
  | .lit (.string bytes) => bytes.length + 1
  | .lit _ => 1
  | .nil => 1
  | .ptr d => uptoBulk d + 1
  | .slice elems spare => uptoBulkAll elems + uptoBulkAll spare + 1
  | .agg parts => uptoBulkAll parts + 1
  | .iface _ d => uptoBulk d + 1
  | .map entries => uptoBulkEntries entries + 1
  | .held _ => 1
def uptoBulkAll {H : Type} : List (DataW H) → Nat
  | [] => 0
  | d :: r => uptoBulk d + uptoBulkAll r
def uptoBulkEntries {H : Type} : List (Lit × DataW H) → Nat
  | [] => 0
  | x :: r => uptoBulkEntry x + uptoBulkEntries r
def uptoBulkEntry {H : Type} : Lit × DataW H → Nat
  | (.string bytes, d) => bytes.length + uptoBulk d + 1
  | (_, d) => uptoBulk d + 1
 end
def uptoSmall : (H : Type) → List (DataW H) → Bool := fun _ ds => decide (uptoBulkAll ds ≤ 1048576)
def OpenSpec.upto (s : _root_.Go.ChangeSpec) : _root_.Go.OpenSpec := { _root_.Go.OpenSpec.ofChange s with cond := some uptoSmall }

/-- 'transomlaw1.NumAll', WHERE WHAT IT READS IS OF BULK AT MOST 1048576: true; the input reads as it did. -/
def numAllUptoRow : OpenClaim := { program := "ythfgocinlbogeaa", sum := "4395ccc95ce93bf9bc2ecd5d6b2b45dd8e3bd0a0b670184467adf4205b30fffa", func := "transom/transomlaw1.NumAll", spec := "numAll", apart := false, narrowed := true }
def NumAllUptoSaid : Prop := numAllUptoRow.holds Try.pinned (OpenSpec.upto numAllSpec)

/-- 'transomlaw16.RingApart', WHERE WHAT IT READS IS OF BULK AT MOST 1048576: true; the input reads as it did. -/
def ringApartUptoRow : OpenClaim := { program := "ythfgocinlbogeaa", sum := "4395ccc95ce93bf9bc2ecd5d6b2b45dd8e3bd0a0b670184467adf4205b30fffa", func := "transom/transomlaw16.RingApart", spec := "ringApart", unfollowed := true, recurses := true, apart := false, narrowed := true }
def RingApartUptoSaid : Prop := ringApartUptoRow.holds Try.pinned (OpenSpec.upto ringApartSpec)

/-- 'transomlaw20.Call1Takes', WHERE WHAT IT READS IS OF BULK AT MOST 1048576: true; the input reads as it did. -/
def call1TakesUptoRow : OpenClaim := { program := "ythfgocinlbogeaa", sum := "4395ccc95ce93bf9bc2ecd5d6b2b45dd8e3bd0a0b670184467adf4205b30fffa", func := "transom/transomlaw20.Call1Takes", spec := "call1Takes", apart := false, narrowed := true }
def Call1TakesUptoSaid : Prop := call1TakesUptoRow.holds Try.pinned (OpenSpec.upto call1TakesSpec)

/-- 'transomlaw21.Call2Takes', WHERE WHAT IT READS IS OF BULK AT MOST 1048576: true; the input reads as it did. -/
def call2TakesUptoRow : OpenClaim := { program := "ythfgocinlbogeaa", sum := "4395ccc95ce93bf9bc2ecd5d6b2b45dd8e3bd0a0b670184467adf4205b30fffa", func := "transom/transomlaw21.Call2Takes", spec := "call2Takes", unfollowed := true, recurses := true, apart := false, narrowed := true }
def Call2TakesUptoSaid : Prop := call2TakesUptoRow.holds Try.pinned (OpenSpec.upto call2TakesSpec)

/-- 'transomlaw19.ArenaVersions', WHERE WHAT IT READS IS OF BULK AT MOST 1048576: true; the input reads as it did. -/
def arenaVersionsUptoRow : OpenClaim := { program := "ythfgocinlbogeaa", sum := "4395ccc95ce93bf9bc2ecd5d6b2b45dd8e3bd0a0b670184467adf4205b30fffa", func := "transom/transomlaw19.ArenaVersions", spec := "arenaVersions", unfollowed := true, recurses := true, apart := false, narrowed := true }
def ArenaVersionsUptoSaid : Prop := arenaVersionsUptoRow.holds Try.pinned (OpenSpec.upto arenaVersionsSpec)

/-- 'transomlaw19.ArenaOrder', WHERE WHAT IT READS IS OF BULK AT MOST 1048576: true; the input reads as it did. -/
def arenaOrderUptoRow : OpenClaim := { program := "ythfgocinlbogeaa", sum := "4395ccc95ce93bf9bc2ecd5d6b2b45dd8e3bd0a0b670184467adf4205b30fffa", func := "transom/transomlaw19.ArenaOrder", spec := "arenaOrder", unfollowed := true, recurses := true, apart := false, narrowed := true }
def ArenaOrderUptoSaid : Prop := arenaOrderUptoRow.holds Try.pinned (OpenSpec.upto arenaOrderSpec)

/-- 'transomlaw19.ArenaAll', WHERE WHAT IT READS IS OF BULK AT MOST 1048576: true; the input reads as it did. -/
def arenaAllUptoRow : OpenClaim := { program := "ythfgocinlbogeaa", sum := "4395ccc95ce93bf9bc2ecd5d6b2b45dd8e3bd0a0b670184467adf4205b30fffa", func := "transom/transomlaw19.ArenaAll", spec := "arenaAll", unfollowed := true, recurses := true, apart := false, narrowed := true }
def ArenaAllUptoSaid : Prop := arenaAllUptoRow.holds Try.pinned (OpenSpec.upto arenaAllSpec)

end Rows
end Go.Proofs.Ythfgocinlbogeaa
