/- cats: what its functions come to. -/
import Derived.Test.YtfllikkobpfmfaaS3
import Derived.Test.YtfllikkobpfmfaaPC
namespace Go.Proofs.Ytfllikkobpfmfaa
open Go.Ts Go.Sets
attribute [local irreducible] Go.Ts.AW Go.Ts.AOps Go.Ts.AL Go.Ts.AOp Go.Ts.ACalls Go.Ts.DL
theorem hT_lt {x y : UInt16} : ((x.toNat : Int) < (y.toNat : Int)) ↔ x < y := by rw [UInt16.lt_iff_toNat_lt]; omega

structure MX (keep : Bool → Bool → Bool) (a b : List UInt16) where
  a' : List UInt16
  b' : List UInt16
  pre : List UInt16
  k : Nat
  hp : pre ++ mergeK keep a' b' = mergeK keep a b
  hl : pre.length + a'.length + b'.length ≤ a.length + b.length
end Go.Proofs.Ytfllikkobpfmfaa
