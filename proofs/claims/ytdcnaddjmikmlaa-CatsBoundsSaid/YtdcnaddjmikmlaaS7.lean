/- The document's answers on sets, continued: PutSet, TakeSet, SameSet. -/
import Derived.Test.YtdcnaddjmikmlaaS6
namespace Go.Proofs.Ytdcnaddjmikmlaa
open Go.Ts Go.Sets
attribute [local irreducible] Go.Ts.AW Go.Ts.AOps Go.Ts.AL Go.Ts.AOp Go.Ts.ACalls Go.Ts.DL Go.Ts.DQ Go.Ts.EL
theorem putI1 (n : Nat) : putI n 1 = [UInt8.ofNat n] := by rw [putI, if_pos (by omega)]; simp [be]
theorem beV_one (b : List UInt8) (h : 1 ≤ b.length) : beV (b.take 1) = (b.getD 0 default).toNat := by
  cases b with
  | nil => simp at h
  | cons x b => simp [beV]
structure SSX (a b : List UInt16) where
  i : Nat
  hi : i ≤ a.length
  hp : ∀ j, j < i → a.getD j default = b.getD j default
end Go.Proofs.Ytdcnaddjmikmlaa
