/-
  No cell of these rows narrows 'for every input' (looked for: loops, veiled, ifaces, maps, wideKeys, modest, calm, conditions, laid).
  DERIVED. THE GIVEN ROWS OF THIS SEAT. 13 by the template 'for every input the law returns true; each argument reads behind the call as it read before'; 0 by the template 'total and deterministic' (their statements: YtjcfhhepnjmchaaTotals.lean).
  GIVEN WITH THE SEED: the statements are not yours to turn. If you find one false, say at which input.
  Laid BY PROGRAM, IN A SANDBOX (cutbox-rows.mjs): the forced cells as the released guide's own fill.sh prints them over the translation c4e105771de7cc25… (all of the seat's roots in one cut). By AI agents, Wed Nov 11 2026. No macro, syntax, notation, axiom, sorry.
-/
import Derived.Test.YtjcfhhepnjmchaaChecked
import GoSem.Claim
import GoSem.ClaimJoined
import GoSem.ClaimMapViews
import Derived.JoinedTies
import Derived.KernelRfl
namespace Go.Proofs.Ytjcfhhepnjmchaa
/- THE CELL 'sum', in the pinned program and in every row, IS THE sha256 OF THE DUMP (.gsa) THAT YtjcfhhepnjmchaaProg.lean LOADS. Nothing in Lean hashes anything: it is a label: what it is worth is what the hold of that sum in a sandbox is worth. -/
noncomputable def Try.pinned : Pinned := { name := "ytjcfhhepnjmchaa", sum := "c4e105771de7cc259012a65bf5587c05eaaba109d2a3264c697bddea35a49f51", checked := Try.checked }
namespace Rows
def none {H : Type} : Left H := { results := [], args := [] }

/-- 'transomlaw15.QuotaAll': WHATEVER THE INPUT: true; the input reads as it did. -/
def quotaAllSpec : ChangeSpec := { name := "quotaAll", fn := fun _ => fun
  | [d1, d2, d3, d4] => { results := [.lit (.bool true)], args := [d1, d2, d3, d4] }
  | _ => none }
def quotaAllRow : OpenClaim := { program := "ytjcfhhepnjmchaa", sum := "c4e105771de7cc259012a65bf5587c05eaaba109d2a3264c697bddea35a49f51", func := "transom/transomlaw15.QuotaAll", spec := "quotaAll", apart := false }
def QuotaAllSaid : Prop := quotaAllRow.holds Try.pinned (OpenSpec.ofChange quotaAllSpec)

/-- ITS FALSE NEIGHBOUR: 'it returns false'. Refute it at one input. -/
def quotaAllWrong : ChangeSpec := { name := "quotaAll", fn := fun _ => fun
  | [d1, d2, d3, d4] => { results := [.lit (.bool false)], args := [d1, d2, d3, d4] }
  | _ => none }
def QuotaAllWrongFalsely : Prop := quotaAllRow.holds Try.pinned (OpenSpec.ofChange quotaAllWrong)

/-- 'transomlaw15.QuotaBack': WHATEVER THE INPUT: true; the input reads as it did. -/
def quotaBackSpec : ChangeSpec := { name := "quotaBack", fn := fun _ => fun
  | [d1, d2] => { results := [.lit (.bool true)], args := [d1, d2] }
  | _ => none }
def quotaBackRow : OpenClaim := { program := "ytjcfhhepnjmchaa", sum := "c4e105771de7cc259012a65bf5587c05eaaba109d2a3264c697bddea35a49f51", func := "transom/transomlaw15.QuotaBack", spec := "quotaBack", apart := false }
def QuotaBackSaid : Prop := quotaBackRow.holds Try.pinned (OpenSpec.ofChange quotaBackSpec)

/-- ITS FALSE NEIGHBOUR: 'it returns false'. Refute it at one input. -/
def quotaBackWrong : ChangeSpec := { name := "quotaBack", fn := fun _ => fun
  | [d1, d2] => { results := [.lit (.bool false)], args := [d1, d2] }
  | _ => none }
def QuotaBackWrongFalsely : Prop := quotaBackRow.holds Try.pinned (OpenSpec.ofChange quotaBackWrong)

/-- 'transomlaw15.QuotaForms': WHATEVER THE INPUT: true; the input reads as it did. -/
def quotaFormsSpec : ChangeSpec := { name := "quotaForms", fn := fun _ => fun
  | [] => { results := [.lit (.bool true)], args := [] }
  | _ => none }
def quotaFormsRow : OpenClaim := { program := "ytjcfhhepnjmchaa", sum := "c4e105771de7cc259012a65bf5587c05eaaba109d2a3264c697bddea35a49f51", func := "transom/transomlaw15.QuotaForms", spec := "quotaForms", apart := false }
def QuotaFormsSaid : Prop := quotaFormsRow.holds Try.pinned (OpenSpec.ofChange quotaFormsSpec)

/-- ITS FALSE NEIGHBOUR: 'it returns false'. Refute it at one input. -/
def quotaFormsWrong : ChangeSpec := { name := "quotaForms", fn := fun _ => fun
  | [] => { results := [.lit (.bool false)], args := [] }
  | _ => none }
def QuotaFormsWrongFalsely : Prop := quotaFormsRow.holds Try.pinned (OpenSpec.ofChange quotaFormsWrong)

/-- 'transomlaw1.NumAll': WHATEVER THE INPUT: true; the input reads as it did. -/
def numAllSpec : ChangeSpec := { name := "numAll", fn := fun _ => fun
  | [d1, d2, d3] => { results := [.lit (.bool true)], args := [d1, d2, d3] }
  | _ => none }
def numAllRow : OpenClaim := { program := "ytjcfhhepnjmchaa", sum := "c4e105771de7cc259012a65bf5587c05eaaba109d2a3264c697bddea35a49f51", func := "transom/transomlaw1.NumAll", spec := "numAll", apart := false }
def NumAllSaid : Prop := numAllRow.holds Try.pinned (OpenSpec.ofChange numAllSpec)

/-- ITS FALSE NEIGHBOUR: 'it returns false'. Refute it at one input. -/
def numAllWrong : ChangeSpec := { name := "numAll", fn := fun _ => fun
  | [d1, d2, d3] => { results := [.lit (.bool false)], args := [d1, d2, d3] }
  | _ => none }
def NumAllWrongFalsely : Prop := numAllRow.holds Try.pinned (OpenSpec.ofChange numAllWrong)

/-- 'transomlaw1.NumBytes': WHATEVER THE INPUT: true; the input reads as it did. -/
def numBytesSpec : ChangeSpec := { name := "numBytes", fn := fun _ => fun
  | [d1, d2] => { results := [.lit (.bool true)], args := [d1, d2] }
  | _ => none }
def numBytesRow : OpenClaim := { program := "ytjcfhhepnjmchaa", sum := "c4e105771de7cc259012a65bf5587c05eaaba109d2a3264c697bddea35a49f51", func := "transom/transomlaw1.NumBytes", spec := "numBytes", apart := false }
def NumBytesSaid : Prop := numBytesRow.holds Try.pinned (OpenSpec.ofChange numBytesSpec)

/-- ITS FALSE NEIGHBOUR: 'it returns false'. Refute it at one input. -/
def numBytesWrong : ChangeSpec := { name := "numBytes", fn := fun _ => fun
  | [d1, d2] => { results := [.lit (.bool false)], args := [d1, d2] }
  | _ => none }
def NumBytesWrongFalsely : Prop := numBytesRow.holds Try.pinned (OpenSpec.ofChange numBytesWrong)

/-- 'transomlaw1.NumBack': WHATEVER THE INPUT: true; the input reads as it did. -/
def numBackSpec : ChangeSpec := { name := "numBack", fn := fun _ => fun
  | [d1, d2, d3, d4, d5] => { results := [.lit (.bool true)], args := [d1, d2, d3, d4, d5] }
  | _ => none }
def numBackRow : OpenClaim := { program := "ytjcfhhepnjmchaa", sum := "c4e105771de7cc259012a65bf5587c05eaaba109d2a3264c697bddea35a49f51", func := "transom/transomlaw1.NumBack", spec := "numBack", apart := false }
def NumBackSaid : Prop := numBackRow.holds Try.pinned (OpenSpec.ofChange numBackSpec)

/-- ITS FALSE NEIGHBOUR: 'it returns false'. Refute it at one input. -/
def numBackWrong : ChangeSpec := { name := "numBack", fn := fun _ => fun
  | [d1, d2, d3, d4, d5] => { results := [.lit (.bool false)], args := [d1, d2, d3, d4, d5] }
  | _ => none }
def NumBackWrongFalsely : Prop := numBackRow.holds Try.pinned (OpenSpec.ofChange numBackWrong)

/-- 'transomlaw1.NumOrder': WHATEVER THE INPUT: true; the input reads as it did. -/
def numOrderSpec : ChangeSpec := { name := "numOrder", fn := fun _ => fun
  | [d1, d2] => { results := [.lit (.bool true)], args := [d1, d2] }
  | _ => none }
def numOrderRow : OpenClaim := { program := "ytjcfhhepnjmchaa", sum := "c4e105771de7cc259012a65bf5587c05eaaba109d2a3264c697bddea35a49f51", func := "transom/transomlaw1.NumOrder", spec := "numOrder", apart := false }
def NumOrderSaid : Prop := numOrderRow.holds Try.pinned (OpenSpec.ofChange numOrderSpec)

/-- ITS FALSE NEIGHBOUR: 'it returns false'. Refute it at one input. -/
def numOrderWrong : ChangeSpec := { name := "numOrder", fn := fun _ => fun
  | [d1, d2] => { results := [.lit (.bool false)], args := [d1, d2] }
  | _ => none }
def NumOrderWrongFalsely : Prop := numOrderRow.holds Try.pinned (OpenSpec.ofChange numOrderWrong)

/-- 'transomlaw1.NumForms': WHATEVER THE INPUT: true; the input reads as it did. -/
def numFormsSpec : ChangeSpec := { name := "numForms", fn := fun _ => fun
  | [] => { results := [.lit (.bool true)], args := [] }
  | _ => none }
def numFormsRow : OpenClaim := { program := "ytjcfhhepnjmchaa", sum := "c4e105771de7cc259012a65bf5587c05eaaba109d2a3264c697bddea35a49f51", func := "transom/transomlaw1.NumForms", spec := "numForms", apart := false }
def NumFormsSaid : Prop := numFormsRow.holds Try.pinned (OpenSpec.ofChange numFormsSpec)

/-- ITS FALSE NEIGHBOUR: 'it returns false'. Refute it at one input. -/
def numFormsWrong : ChangeSpec := { name := "numForms", fn := fun _ => fun
  | [] => { results := [.lit (.bool false)], args := [] }
  | _ => none }
def NumFormsWrongFalsely : Prop := numFormsRow.holds Try.pinned (OpenSpec.ofChange numFormsWrong)

/-- 'transomlaw1.NumParts': WHATEVER THE INPUT: true; the input reads as it did. -/
def numPartsSpec : ChangeSpec := { name := "numParts", fn := fun _ => fun
  | [d1, d2, d3] => { results := [.lit (.bool true)], args := [d1, d2, d3] }
  | _ => none }
def numPartsRow : OpenClaim := { program := "ytjcfhhepnjmchaa", sum := "c4e105771de7cc259012a65bf5587c05eaaba109d2a3264c697bddea35a49f51", func := "transom/transomlaw1.NumParts", spec := "numParts", apart := false }
def NumPartsSaid : Prop := numPartsRow.holds Try.pinned (OpenSpec.ofChange numPartsSpec)

/-- ITS FALSE NEIGHBOUR: 'it returns false'. Refute it at one input. -/
def numPartsWrong : ChangeSpec := { name := "numParts", fn := fun _ => fun
  | [d1, d2, d3] => { results := [.lit (.bool false)], args := [d1, d2, d3] }
  | _ => none }
def NumPartsWrongFalsely : Prop := numPartsRow.holds Try.pinned (OpenSpec.ofChange numPartsWrong)

/-- 'transomlaw9.ScodeAll': WHATEVER THE INPUT: true; the input reads as it did. -/
def scodeAllSpec : ChangeSpec := { name := "scodeAll", fn := fun _ => fun
  | [d1, d2] => { results := [.lit (.bool true)], args := [d1, d2] }
  | _ => none }
def scodeAllRow : OpenClaim := { program := "ytjcfhhepnjmchaa", sum := "c4e105771de7cc259012a65bf5587c05eaaba109d2a3264c697bddea35a49f51", func := "transom/transomlaw9.ScodeAll", spec := "scodeAll", unfollowed := true, recurses := true, apart := false }
def ScodeAllSaid : Prop := scodeAllRow.holds Try.pinned (OpenSpec.ofChange scodeAllSpec)

/-- ITS FALSE NEIGHBOUR: 'it returns false'. Refute it at one input. -/
def scodeAllWrong : ChangeSpec := { name := "scodeAll", fn := fun _ => fun
  | [d1, d2] => { results := [.lit (.bool false)], args := [d1, d2] }
  | _ => none }
def ScodeAllWrongFalsely : Prop := scodeAllRow.holds Try.pinned (OpenSpec.ofChange scodeAllWrong)

/-- 'transomlaw9.ScodeBack': WHATEVER THE INPUT: true; the input reads as it did. -/
def scodeBackSpec : ChangeSpec := { name := "scodeBack", fn := fun _ => fun
  | [d1, d2, d3, d4] => { results := [.lit (.bool true)], args := [d1, d2, d3, d4] }
  | _ => none }
def scodeBackRow : OpenClaim := { program := "ytjcfhhepnjmchaa", sum := "c4e105771de7cc259012a65bf5587c05eaaba109d2a3264c697bddea35a49f51", func := "transom/transomlaw9.ScodeBack", spec := "scodeBack", unfollowed := true, recurses := true, apart := false }
def ScodeBackSaid : Prop := scodeBackRow.holds Try.pinned (OpenSpec.ofChange scodeBackSpec)

/-- ITS FALSE NEIGHBOUR: 'it returns false'. Refute it at one input. -/
def scodeBackWrong : ChangeSpec := { name := "scodeBack", fn := fun _ => fun
  | [d1, d2, d3, d4] => { results := [.lit (.bool false)], args := [d1, d2, d3, d4] }
  | _ => none }
def ScodeBackWrongFalsely : Prop := scodeBackRow.holds Try.pinned (OpenSpec.ofChange scodeBackWrong)

/-- 'transomlaw9.ScodeOne': WHATEVER THE INPUT: true; the input reads as it did. -/
def scodeOneSpec : ChangeSpec := { name := "scodeOne", fn := fun _ => fun
  | [d1, d2] => { results := [.lit (.bool true)], args := [d1, d2] }
  | _ => none }
def scodeOneRow : OpenClaim := { program := "ytjcfhhepnjmchaa", sum := "c4e105771de7cc259012a65bf5587c05eaaba109d2a3264c697bddea35a49f51", func := "transom/transomlaw9.ScodeOne", spec := "scodeOne", unfollowed := true, recurses := true, apart := false }
def ScodeOneSaid : Prop := scodeOneRow.holds Try.pinned (OpenSpec.ofChange scodeOneSpec)

/-- ITS FALSE NEIGHBOUR: 'it returns false'. Refute it at one input. -/
def scodeOneWrong : ChangeSpec := { name := "scodeOne", fn := fun _ => fun
  | [d1, d2] => { results := [.lit (.bool false)], args := [d1, d2] }
  | _ => none }
def ScodeOneWrongFalsely : Prop := scodeOneRow.holds Try.pinned (OpenSpec.ofChange scodeOneWrong)

/-- 'transomlaw9.ScodeForms': WHATEVER THE INPUT: true; the input reads as it did. -/
def scodeFormsSpec : ChangeSpec := { name := "scodeForms", fn := fun _ => fun
  | [] => { results := [.lit (.bool true)], args := [] }
  | _ => none }
def scodeFormsRow : OpenClaim := { program := "ytjcfhhepnjmchaa", sum := "c4e105771de7cc259012a65bf5587c05eaaba109d2a3264c697bddea35a49f51", func := "transom/transomlaw9.ScodeForms", spec := "scodeForms", unfollowed := true, recurses := true, apart := false }
def ScodeFormsSaid : Prop := scodeFormsRow.holds Try.pinned (OpenSpec.ofChange scodeFormsSpec)

/-- ITS FALSE NEIGHBOUR: 'it returns false'. Refute it at one input. -/
def scodeFormsWrong : ChangeSpec := { name := "scodeForms", fn := fun _ => fun
  | [] => { results := [.lit (.bool false)], args := [] }
  | _ => none }
def ScodeFormsWrongFalsely : Prop := scodeFormsRow.holds Try.pinned (OpenSpec.ofChange scodeFormsWrong)

/- THE SECOND FORM. 'bulk': how many values and letters a reading holds, each counted each time it is reached (what is shared counts as often as it is met; a slice's spare places count too). A statement '..UptoSaid' is the law's where the arguments, and the package variables that the reading takes, are together of bulk at most 1048576: NARROWER than '..Said'. Prove '..Said' where nothing that the law and all that it calls make is longer than what came in: it says more and counts as full. Else prove '..UptoSaid'. A law counts once. -/
mutual
def uptoBulk {H : Type} : DataW H → Nat
  | .lit (.string bytes) => bytes.length + 1
  | .lit _ => 1
  | .nil => 1
  | .ptr d => uptoBulk d + 1
  | .slice elems spare => uptoBulkAll elems + uptoBulkAll spare + 1
  | .agg parts => uptoBulkAll parts + 1
  | .iface _ d => uptoBulk d + 1
  | .map entries => uptoBulkEntries entries + 1
  | .held _ => 1
def uptoBulkAll {H : Type} : List (DataW H) → Nat
  | [] => 0
  | d :: r => uptoBulk d + uptoBulkAll r
def uptoBulkEntries {H : Type} : List (Lit × DataW H) → Nat
  | [] => 0
  | x :: r => uptoBulkEntry x + uptoBulkEntries r
def uptoBulkEntry {H : Type} : Lit × DataW H → Nat
  | (.string bytes, d) => bytes.length + uptoBulk d + 1
  | (_, d) => uptoBulk d + 1
 end
def uptoSmall : (H : Type) → List (DataW H) → Bool := fun _ ds => decide (uptoBulkAll ds ≤ 1048576)
def OpenSpec.upto (s : _root_.Go.ChangeSpec) : _root_.Go.OpenSpec := { _root_.Go.OpenSpec.ofChange s with cond := some uptoSmall }

/-- 'transomlaw15.QuotaAll', WHERE WHAT IT READS IS OF BULK AT MOST 1048576: true; the input reads as it did. -/
def quotaAllUptoRow : OpenClaim := { program := "ytjcfhhepnjmchaa", sum := "c4e105771de7cc259012a65bf5587c05eaaba109d2a3264c697bddea35a49f51", func := "transom/transomlaw15.QuotaAll", spec := "quotaAll", apart := false, narrowed := true }
def QuotaAllUptoSaid : Prop := quotaAllUptoRow.holds Try.pinned (OpenSpec.upto quotaAllSpec)

/-- 'transomlaw15.QuotaBack', WHERE WHAT IT READS IS OF BULK AT MOST 1048576: true; the input reads as it did. -/
def quotaBackUptoRow : OpenClaim := { program := "ytjcfhhepnjmchaa", sum := "c4e105771de7cc259012a65bf5587c05eaaba109d2a3264c697bddea35a49f51", func := "transom/transomlaw15.QuotaBack", spec := "quotaBack", apart := false, narrowed := true }
def QuotaBackUptoSaid : Prop := quotaBackUptoRow.holds Try.pinned (OpenSpec.upto quotaBackSpec)

/-- 'transomlaw15.QuotaForms', WHERE WHAT IT READS IS OF BULK AT MOST 1048576: true; the input reads as it did. -/
def quotaFormsUptoRow : OpenClaim := { program := "ytjcfhhepnjmchaa", sum := "c4e105771de7cc259012a65bf5587c05eaaba109d2a3264c697bddea35a49f51", func := "transom/transomlaw15.QuotaForms", spec := "quotaForms", apart := false, narrowed := true }
def QuotaFormsUptoSaid : Prop := quotaFormsUptoRow.holds Try.pinned (OpenSpec.upto quotaFormsSpec)

/-- 'transomlaw1.NumAll', WHERE WHAT IT READS IS OF BULK AT MOST 1048576: true; the input reads as it did. -/
def numAllUptoRow : OpenClaim := { program := "ytjcfhhepnjmchaa", sum := "c4e105771de7cc259012a65bf5587c05eaaba109d2a3264c697bddea35a49f51", func := "transom/transomlaw1.NumAll", spec := "numAll", apart := false, narrowed := true }
def NumAllUptoSaid : Prop := numAllUptoRow.holds Try.pinned (OpenSpec.upto numAllSpec)

/-- 'transomlaw1.NumBytes', WHERE WHAT IT READS IS OF BULK AT MOST 1048576: true; the input reads as it did. -/
def numBytesUptoRow : OpenClaim := { program := "ytjcfhhepnjmchaa", sum := "c4e105771de7cc259012a65bf5587c05eaaba109d2a3264c697bddea35a49f51", func := "transom/transomlaw1.NumBytes", spec := "numBytes", apart := false, narrowed := true }
def NumBytesUptoSaid : Prop := numBytesUptoRow.holds Try.pinned (OpenSpec.upto numBytesSpec)

/-- 'transomlaw1.NumBack', WHERE WHAT IT READS IS OF BULK AT MOST 1048576: true; the input reads as it did. -/
def numBackUptoRow : OpenClaim := { program := "ytjcfhhepnjmchaa", sum := "c4e105771de7cc259012a65bf5587c05eaaba109d2a3264c697bddea35a49f51", func := "transom/transomlaw1.NumBack", spec := "numBack", apart := false, narrowed := true }
def NumBackUptoSaid : Prop := numBackUptoRow.holds Try.pinned (OpenSpec.upto numBackSpec)

/-- 'transomlaw1.NumOrder', WHERE WHAT IT READS IS OF BULK AT MOST 1048576: true; the input reads as it did. -/
def numOrderUptoRow : OpenClaim := { program := "ytjcfhhepnjmchaa", sum := "c4e105771de7cc259012a65bf5587c05eaaba109d2a3264c697bddea35a49f51", func := "transom/transomlaw1.NumOrder", spec := "numOrder", apart := false, narrowed := true }
def NumOrderUptoSaid : Prop := numOrderUptoRow.holds Try.pinned (OpenSpec.upto numOrderSpec)

/-- 'transomlaw1.NumForms', WHERE WHAT IT READS IS OF BULK AT MOST 1048576: true; the input reads as it did. -/
def numFormsUptoRow : OpenClaim := { program := "ytjcfhhepnjmchaa", sum := "c4e105771de7cc259012a65bf5587c05eaaba109d2a3264c697bddea35a49f51", func := "transom/transomlaw1.NumForms", spec := "numForms", apart := false, narrowed := true }
def NumFormsUptoSaid : Prop := numFormsUptoRow.holds Try.pinned (OpenSpec.upto numFormsSpec)

/-- 'transomlaw1.NumParts', WHERE WHAT IT READS IS OF BULK AT MOST 1048576: true; the input reads as it did. -/
def numPartsUptoRow : OpenClaim := { program := "ytjcfhhepnjmchaa", sum := "c4e105771de7cc259012a65bf5587c05eaaba109d2a3264c697bddea35a49f51", func := "transom/transomlaw1.NumParts", spec := "numParts", apart := false, narrowed := true }
def NumPartsUptoSaid : Prop := numPartsUptoRow.holds Try.pinned (OpenSpec.upto numPartsSpec)

/-- 'transomlaw9.ScodeAll', WHERE WHAT IT READS IS OF BULK AT MOST 1048576: true; the input reads as it did. -/
def scodeAllUptoRow : OpenClaim := { program := "ytjcfhhepnjmchaa", sum := "c4e105771de7cc259012a65bf5587c05eaaba109d2a3264c697bddea35a49f51", func := "transom/transomlaw9.ScodeAll", spec := "scodeAll", unfollowed := true, recurses := true, apart := false, narrowed := true }
def ScodeAllUptoSaid : Prop := scodeAllUptoRow.holds Try.pinned (OpenSpec.upto scodeAllSpec)

/-- 'transomlaw9.ScodeBack', WHERE WHAT IT READS IS OF BULK AT MOST 1048576: true; the input reads as it did. -/
def scodeBackUptoRow : OpenClaim := { program := "ytjcfhhepnjmchaa", sum := "c4e105771de7cc259012a65bf5587c05eaaba109d2a3264c697bddea35a49f51", func := "transom/transomlaw9.ScodeBack", spec := "scodeBack", unfollowed := true, recurses := true, apart := false, narrowed := true }
def ScodeBackUptoSaid : Prop := scodeBackUptoRow.holds Try.pinned (OpenSpec.upto scodeBackSpec)

/-- 'transomlaw9.ScodeOne', WHERE WHAT IT READS IS OF BULK AT MOST 1048576: true; the input reads as it did. -/
def scodeOneUptoRow : OpenClaim := { program := "ytjcfhhepnjmchaa", sum := "c4e105771de7cc259012a65bf5587c05eaaba109d2a3264c697bddea35a49f51", func := "transom/transomlaw9.ScodeOne", spec := "scodeOne", unfollowed := true, recurses := true, apart := false, narrowed := true }
def ScodeOneUptoSaid : Prop := scodeOneUptoRow.holds Try.pinned (OpenSpec.upto scodeOneSpec)

/-- 'transomlaw9.ScodeForms', WHERE WHAT IT READS IS OF BULK AT MOST 1048576: true; the input reads as it did. -/
def scodeFormsUptoRow : OpenClaim := { program := "ytjcfhhepnjmchaa", sum := "c4e105771de7cc259012a65bf5587c05eaaba109d2a3264c697bddea35a49f51", func := "transom/transomlaw9.ScodeForms", spec := "scodeForms", unfollowed := true, recurses := true, apart := false, narrowed := true }
def ScodeFormsUptoSaid : Prop := scodeFormsUptoRow.holds Try.pinned (OpenSpec.upto scodeFormsSpec)

end Rows
end Go.Proofs.Ytjcfhhepnjmchaa
