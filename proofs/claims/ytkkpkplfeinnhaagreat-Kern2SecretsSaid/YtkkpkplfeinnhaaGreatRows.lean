/-
  No cell of these rows narrows 'for every input' (looked for: loops, veiled, ifaces, maps, wideKeys, modest, calm, conditions, laid).
  DERIVED. THE GIVEN ROWS OF THIS SEAT. 6 by the template 'for every input the law returns true; each argument reads behind the call as it read before'; 0 by the template 'total and deterministic' (their statements: YtkkpkplfeinnhaaGreatTotals.lean).
  GIVEN WITH THE SEED: the statements are not yours to turn. If you find one false, say at which input.
  Laid BY PROGRAM, IN A SANDBOX (cutbox-rows.mjs): the forced cells as the released guide's own fill.sh prints them over the translation 51abe0c1d889896b… (all of the seat's roots in one cut). By AI agents, Wed Nov 11 2026. No macro, syntax, notation, axiom, sorry.
-/
import Derived.Test.YtkkpkplfeinnhaaGreatChecked
import GoSem.Claim
import GoSem.ClaimJoined
import GoSem.ClaimMapViews
import Derived.JoinedTies
import Derived.KernelRfl
namespace Go.Proofs.YtkkpkplfeinnhaaGreat
/- THE CELL 'sum', in the pinned program and in every row, IS THE sha256 OF THE DUMP (.gsa) THAT YtkkpkplfeinnhaaGreatProg.lean LOADS. Nothing in Lean hashes anything: it is a label: what it is worth is what the hold of that sum in a sandbox is worth. -/
noncomputable def Tryz.pinned : Pinned := { name := "ytkkpkplfeinnhaagreat", sum := "51abe0c1d889896b6e9a9e13b168633f46c9be093660a863eed13ed604856e02", checked := Tryz.checked }
namespace Rows
def none {H : Type} : Left H := { results := [], args := [] }

/-- 'transomlaw23.Kern2Secrets': WHATEVER THE INPUT: true; the input reads as it did. -/
def kern2SecretsSpec : ChangeSpec := { name := "kern2Secrets", fn := fun _ => fun
  | [] => { results := [.lit (.bool true)], args := [] }
  | _ => none }
def kern2SecretsRow : OpenClaim := { program := "ytkkpkplfeinnhaagreat", sum := "51abe0c1d889896b6e9a9e13b168633f46c9be093660a863eed13ed604856e02", func := "transom/transomlaw23.Kern2Secrets", spec := "kern2Secrets", unfollowed := true, recurses := true, apart := false }
def Kern2SecretsSaid : Prop := kern2SecretsRow.holds Tryz.pinned (OpenSpec.ofChange kern2SecretsSpec)

/-- ITS FALSE NEIGHBOUR: 'it returns false'. Refute it at one input. -/
def kern2SecretsWrong : ChangeSpec := { name := "kern2Secrets", fn := fun _ => fun
  | [] => { results := [.lit (.bool false)], args := [] }
  | _ => none }
def Kern2SecretsWrongFalsely : Prop := kern2SecretsRow.holds Tryz.pinned (OpenSpec.ofChange kern2SecretsWrong)

/-- 'transomlaw23.Kern2Gates': WHATEVER THE INPUT: true; the input reads as it did. -/
def kern2GatesSpec : ChangeSpec := { name := "kern2Gates", fn := fun _ => fun
  | [] => { results := [.lit (.bool true)], args := [] }
  | _ => none }
def kern2GatesRow : OpenClaim := { program := "ytkkpkplfeinnhaagreat", sum := "51abe0c1d889896b6e9a9e13b168633f46c9be093660a863eed13ed604856e02", func := "transom/transomlaw23.Kern2Gates", spec := "kern2Gates", unfollowed := true, recurses := true, apart := false }
def Kern2GatesSaid : Prop := kern2GatesRow.holds Tryz.pinned (OpenSpec.ofChange kern2GatesSpec)

/-- ITS FALSE NEIGHBOUR: 'it returns false'. Refute it at one input. -/
def kern2GatesWrong : ChangeSpec := { name := "kern2Gates", fn := fun _ => fun
  | [] => { results := [.lit (.bool false)], args := [] }
  | _ => none }
def Kern2GatesWrongFalsely : Prop := kern2GatesRow.holds Tryz.pinned (OpenSpec.ofChange kern2GatesWrong)

/-- 'transomlaw23.Kern2Drops': WHATEVER THE INPUT: true; the input reads as it did. -/
def kern2DropsSpec : ChangeSpec := { name := "kern2Drops", fn := fun _ => fun
  | [] => { results := [.lit (.bool true)], args := [] }
  | _ => none }
def kern2DropsRow : OpenClaim := { program := "ytkkpkplfeinnhaagreat", sum := "51abe0c1d889896b6e9a9e13b168633f46c9be093660a863eed13ed604856e02", func := "transom/transomlaw23.Kern2Drops", spec := "kern2Drops", unfollowed := true, recurses := true, apart := false }
def Kern2DropsSaid : Prop := kern2DropsRow.holds Tryz.pinned (OpenSpec.ofChange kern2DropsSpec)

/-- ITS FALSE NEIGHBOUR: 'it returns false'. Refute it at one input. -/
def kern2DropsWrong : ChangeSpec := { name := "kern2Drops", fn := fun _ => fun
  | [] => { results := [.lit (.bool false)], args := [] }
  | _ => none }
def Kern2DropsWrongFalsely : Prop := kern2DropsRow.holds Tryz.pinned (OpenSpec.ofChange kern2DropsWrong)

/-- 'transomlaw23.Kern2Order': WHATEVER THE INPUT: true; the input reads as it did. -/
def kern2OrderSpec : ChangeSpec := { name := "kern2Order", fn := fun _ => fun
  | [] => { results := [.lit (.bool true)], args := [] }
  | _ => none }
def kern2OrderRow : OpenClaim := { program := "ytkkpkplfeinnhaagreat", sum := "51abe0c1d889896b6e9a9e13b168633f46c9be093660a863eed13ed604856e02", func := "transom/transomlaw23.Kern2Order", spec := "kern2Order", unfollowed := true, recurses := true, apart := false }
def Kern2OrderSaid : Prop := kern2OrderRow.holds Tryz.pinned (OpenSpec.ofChange kern2OrderSpec)

/-- ITS FALSE NEIGHBOUR: 'it returns false'. Refute it at one input. -/
def kern2OrderWrong : ChangeSpec := { name := "kern2Order", fn := fun _ => fun
  | [] => { results := [.lit (.bool false)], args := [] }
  | _ => none }
def Kern2OrderWrongFalsely : Prop := kern2OrderRow.holds Tryz.pinned (OpenSpec.ofChange kern2OrderWrong)

/-- 'transomlaw23.Kern2Cats': WHATEVER THE INPUT: true; the input reads as it did. -/
def kern2CatsSpec : ChangeSpec := { name := "kern2Cats", fn := fun _ => fun
  | [d1, d2] => { results := [.lit (.bool true)], args := [d1, d2] }
  | _ => none }
def kern2CatsRow : OpenClaim := { program := "ytkkpkplfeinnhaagreat", sum := "51abe0c1d889896b6e9a9e13b168633f46c9be093660a863eed13ed604856e02", func := "transom/transomlaw23.Kern2Cats", spec := "kern2Cats", unfollowed := true, recurses := true, apart := false }
def Kern2CatsSaid : Prop := kern2CatsRow.holds Tryz.pinned (OpenSpec.ofChange kern2CatsSpec)

/-- ITS FALSE NEIGHBOUR: 'it returns false'. Refute it at one input. -/
def kern2CatsWrong : ChangeSpec := { name := "kern2Cats", fn := fun _ => fun
  | [d1, d2] => { results := [.lit (.bool false)], args := [d1, d2] }
  | _ => none }
def Kern2CatsWrongFalsely : Prop := kern2CatsRow.holds Tryz.pinned (OpenSpec.ofChange kern2CatsWrong)

/-- 'transomlaw23.Kern2Stats': WHATEVER THE INPUT: true; the input reads as it did. -/
def kern2StatsSpec : ChangeSpec := { name := "kern2Stats", fn := fun _ => fun
  | [d1, d2, d3] => { results := [.lit (.bool true)], args := [d1, d2, d3] }
  | _ => none }
def kern2StatsRow : OpenClaim := { program := "ytkkpkplfeinnhaagreat", sum := "51abe0c1d889896b6e9a9e13b168633f46c9be093660a863eed13ed604856e02", func := "transom/transomlaw23.Kern2Stats", spec := "kern2Stats", unfollowed := true, recurses := true, apart := false }
def Kern2StatsSaid : Prop := kern2StatsRow.holds Tryz.pinned (OpenSpec.ofChange kern2StatsSpec)

/-- ITS FALSE NEIGHBOUR: 'it returns false'. Refute it at one input. -/
def kern2StatsWrong : ChangeSpec := { name := "kern2Stats", fn := fun _ => fun
  | [d1, d2, d3] => { results := [.lit (.bool false)], args := [d1, d2, d3] }
  | _ => none }
def Kern2StatsWrongFalsely : Prop := kern2StatsRow.holds Tryz.pinned (OpenSpec.ofChange kern2StatsWrong)

/- THE SECOND FORM. 'bulk': how many values and letters a reading holds, each counted each time it is reached (what is shared counts as often as it is met; a slice's spare places count too). A statement '..UptoSaid' is the law's where the arguments, and the package variables that the reading takes, are together of bulk at most 1048576: NARROWER than '..Said'. Prove '..Said' where nothing that the law and all that it calls make is longer than what came in: it says more and counts as full. Else prove '..UptoSaid'. A law counts once. -/
mutual
def uptoBulk {H : Type} : DataW H → Nat
  | .lit (.string bytes) => bytes.length + 1
  | .lit _ => 1
  | .nil => 1
  | .ptr d => uptoBulk d + 1
  | .slice elems spare => uptoBulkAll elems + uptoBulkAll spare + 1
  | .agg parts => uptoBulkAll parts + 1
  | .iface _ d => uptoBulk d + 1
  | .map entries => uptoBulkEntries entries + 1
  | .held _ => 1
def uptoBulkAll {H : Type} : List (DataW H) → Nat
  | [] => 0
  | d :: r => uptoBulk d + uptoBulkAll r
def uptoBulkEntries {H : Type} : List (Lit × DataW H) → Nat
  | [] => 0
  | x :: r => uptoBulkEntry x + uptoBulkEntries r
def uptoBulkEntry {H : Type} : Lit × DataW H → Nat
  | (.string bytes, d) => bytes.length + uptoBulk d + 1
  | (_, d) => uptoBulk d + 1
 end
def uptoSmall : (H : Type) → List (DataW H) → Bool := fun _ ds => decide (uptoBulkAll ds ≤ 1048576)
def OpenSpec.upto (s : _root_.Go.ChangeSpec) : _root_.Go.OpenSpec := { _root_.Go.OpenSpec.ofChange s with cond := some uptoSmall }

/-- 'transomlaw23.Kern2Secrets', WHERE WHAT IT READS IS OF BULK AT MOST 1048576: true; the input reads as it did. -/
def kern2SecretsUptoRow : OpenClaim := { program := "ytkkpkplfeinnhaagreat", sum := "51abe0c1d889896b6e9a9e13b168633f46c9be093660a863eed13ed604856e02", func := "transom/transomlaw23.Kern2Secrets", spec := "kern2Secrets", unfollowed := true, recurses := true, apart := false, narrowed := true }
def Kern2SecretsUptoSaid : Prop := kern2SecretsUptoRow.holds Tryz.pinned (OpenSpec.upto kern2SecretsSpec)

/-- 'transomlaw23.Kern2Gates', WHERE WHAT IT READS IS OF BULK AT MOST 1048576: true; the input reads as it did. -/
def kern2GatesUptoRow : OpenClaim := { program := "ytkkpkplfeinnhaagreat", sum := "51abe0c1d889896b6e9a9e13b168633f46c9be093660a863eed13ed604856e02", func := "transom/transomlaw23.Kern2Gates", spec := "kern2Gates", unfollowed := true, recurses := true, apart := false, narrowed := true }
def Kern2GatesUptoSaid : Prop := kern2GatesUptoRow.holds Tryz.pinned (OpenSpec.upto kern2GatesSpec)

/-- 'transomlaw23.Kern2Drops', WHERE WHAT IT READS IS OF BULK AT MOST 1048576: true; the input reads as it did. -/
def kern2DropsUptoRow : OpenClaim := { program := "ytkkpkplfeinnhaagreat", sum := "51abe0c1d889896b6e9a9e13b168633f46c9be093660a863eed13ed604856e02", func := "transom/transomlaw23.Kern2Drops", spec := "kern2Drops", unfollowed := true, recurses := true, apart := false, narrowed := true }
def Kern2DropsUptoSaid : Prop := kern2DropsUptoRow.holds Tryz.pinned (OpenSpec.upto kern2DropsSpec)

/-- 'transomlaw23.Kern2Order', WHERE WHAT IT READS IS OF BULK AT MOST 1048576: true; the input reads as it did. -/
def kern2OrderUptoRow : OpenClaim := { program := "ytkkpkplfeinnhaagreat", sum := "51abe0c1d889896b6e9a9e13b168633f46c9be093660a863eed13ed604856e02", func := "transom/transomlaw23.Kern2Order", spec := "kern2Order", unfollowed := true, recurses := true, apart := false, narrowed := true }
def Kern2OrderUptoSaid : Prop := kern2OrderUptoRow.holds Tryz.pinned (OpenSpec.upto kern2OrderSpec)

/-- 'transomlaw23.Kern2Cats', WHERE WHAT IT READS IS OF BULK AT MOST 1048576: true; the input reads as it did. -/
def kern2CatsUptoRow : OpenClaim := { program := "ytkkpkplfeinnhaagreat", sum := "51abe0c1d889896b6e9a9e13b168633f46c9be093660a863eed13ed604856e02", func := "transom/transomlaw23.Kern2Cats", spec := "kern2Cats", unfollowed := true, recurses := true, apart := false, narrowed := true }
def Kern2CatsUptoSaid : Prop := kern2CatsUptoRow.holds Tryz.pinned (OpenSpec.upto kern2CatsSpec)

/-- 'transomlaw23.Kern2Stats', WHERE WHAT IT READS IS OF BULK AT MOST 1048576: true; the input reads as it did. -/
def kern2StatsUptoRow : OpenClaim := { program := "ytkkpkplfeinnhaagreat", sum := "51abe0c1d889896b6e9a9e13b168633f46c9be093660a863eed13ed604856e02", func := "transom/transomlaw23.Kern2Stats", spec := "kern2Stats", unfollowed := true, recurses := true, apart := false, narrowed := true }
def Kern2StatsUptoSaid : Prop := kern2StatsUptoRow.holds Tryz.pinned (OpenSpec.upto kern2StatsSpec)

end Rows
end Go.Proofs.YtkkpkplfeinnhaaGreat
