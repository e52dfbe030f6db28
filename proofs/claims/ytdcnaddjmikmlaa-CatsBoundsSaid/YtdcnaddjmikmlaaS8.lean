/- sets and scode; the document's answers to them. -/
import Derived.Test.YtdcnaddjmikmlaaS7
namespace Go.Proofs.Ytdcnaddjmikmlaa
open Go.Ts Go.Sets
attribute [local irreducible] Go.Ts.AW Go.Ts.AOps Go.Ts.AL Go.Ts.AOp Go.Ts.ACalls Go.Ts.DL Go.Ts.DQ Go.Ts.EL
/-- Three sets. -/
def setsV (a b c : List UInt16) : T := .agg [cT a, cT b, cT c]
theorem sets_wk {x y z : T} {a b c : List UInt16} (hx : catsT x = some a) (hy : catsT y = some b) (hz : catsT z = some c) : Wk (.agg [x, y, z]) (setsV a b c) := Wk.aggL (wk3 (catsT_wk hx) (catsT_wk hy) (catsT_wk hz))
def maySetsB (a b c : List UInt16) : Bool := mayC a && mayC b && mayC c && decide (a.length + b.length + c.length ≤ 16) && decide ((mergeK kOr a (mergeK kOr b c)).length = a.length + b.length + c.length)
structure SMX (a b c : List UInt16) where
  i : Nat
  k : Nat
  hi : i ≤ 3
  hp : ∀ j, j < i → mayC ([a, b, c].getD j default) = true
theorem mayC_le {a : List UInt16} (h : mayC a = true) : a.length ≤ 16 := by
  unfold mayC at h; rw [Bool.and_eq_true, decide_eq_true_eq] at h; exact h.1
theorem mayC_up {a : List UInt16} (h : mayC a = true) : Up a := by
  unfold mayC at h; rw [Bool.and_eq_true] at h; exact risesB_iff.1 h.2
theorem or_assoc' {a b c : List UInt16} (ha : Up a) (hb : Up b) (hc : Up c) : mk (mk (a ++ b) ++ c) = mergeK kOr a (mergeK kOr b c) := by
  have h1 := merge_up kOr b c hb hc
  refine up_ext (mk_up _) (merge_up kOr _ _ ha h1) fun z => ?_
  rw [mk_mem, List.mem_append, mk_mem, List.mem_append, or_mem ha h1, or_mem hb hc, or_assoc]
def putS (b : List UInt8) (x y z : List UInt16) : List UInt8 := putC (putC (putC b x) y) z
theorem putC_length (b : List UInt8) (a : List UInt16) : (putC b a).length ≤ b.length + 8 + 2 * a.length := by
  have := putI_le a.length 1
  rw [putC, List.length_append, List.length_append, flat2_length]; omega
end Go.Proofs.Ytdcnaddjmikmlaa
