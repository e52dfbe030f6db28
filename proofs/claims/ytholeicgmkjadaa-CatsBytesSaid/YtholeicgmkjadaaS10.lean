/- The document's TakeSets. -/
import Derived.Test.YtholeicgmkjadaaS9
namespace Go.Proofs.Ytholeicgmkjadaa
open Go.Ts Go.Sets
attribute [local irreducible] Go.Ts.AW Go.Ts.AOps Go.Ts.AL Go.Ts.AOp Go.Ts.ACalls Go.Ts.DL Go.Ts.DQ Go.Ts.EL
structure RTX (s : List UInt8) where
  j : Nat
  i : Nat
  i2 : Nat
  a : List UInt16
  b : List UInt16
  c : List UInt16
  n : Nat
  n1 : Nat
  n2 : Nat
  hj : j ≤ 3
  hn : n ≤ s.length
  h1 : 1 ≤ j → takeC s = (a, n1, 0)
  h2 : 2 ≤ j → takeC (s.drop n1) = (b, n2, 0)
  h3 : 3 ≤ j → ∃ n3, takeC (s.drop (n1 + n2)) = (c, n3, 0) ∧ n = n1 + n2 + n3
  e0 : j = 0 → n = 0
  e1 : j = 1 → n = n1
  e2 : j = 2 → n = n1 + n2
end Go.Proofs.Ytholeicgmkjadaa
