/- scode.Take, and the document's answer to it. -/
import Derived.Test.YtdcnaddjmikmlaaS8
namespace Go.Proofs.Ytdcnaddjmikmlaa
open Go.Ts Go.Sets
attribute [local irreducible] Go.Ts.AW Go.Ts.AOps Go.Ts.AL Go.Ts.AOp Go.Ts.ACalls Go.Ts.DL Go.Ts.DQ Go.Ts.EL
structure TakenS where
  a : List UInt16
  b : List UInt16
  c : List UInt16
  n : Nat
  e : Int
def takeS (s : List UInt8) : TakenS :=
  if (takeC s).2.2 ≠ 0 then ⟨[], [], [], 0, (takeC s).2.2⟩
  else if (takeC (s.drop (takeC s).2.1)).2.2 ≠ 0 then ⟨[], [], [], 0, (takeC (s.drop (takeC s).2.1)).2.2⟩
  else if (takeC (s.drop ((takeC s).2.1 + (takeC (s.drop (takeC s).2.1)).2.1))).2.2 ≠ 0 then ⟨[], [], [], 0, (takeC (s.drop ((takeC s).2.1 + (takeC (s.drop (takeC s).2.1)).2.1))).2.2⟩
  else if maySetsB (takeC s).1 (takeC (s.drop (takeC s).2.1)).1 (takeC (s.drop ((takeC s).2.1 + (takeC (s.drop (takeC s).2.1)).2.1))).1 then
    ⟨(takeC s).1, (takeC (s.drop (takeC s).2.1)).1, (takeC (s.drop ((takeC s).2.1 + (takeC (s.drop (takeC s).2.1)).2.1))).1,
      (takeC s).2.1 + (takeC (s.drop (takeC s).2.1)).2.1 + (takeC (s.drop ((takeC s).2.1 + (takeC (s.drop (takeC s).2.1)).2.1))).2.1, 0⟩
  else ⟨[], [], [], 0, 2⟩
/-- The same, one behind the other. -/
theorem takeS_1 {s : List UInt8} {a : List UInt16} {n : Nat} {e : Int} (h1 : takeC s = (a, n, e)) (he : e ≠ 0) : takeS s = ⟨[], [], [], 0, e⟩ := by
  unfold takeS; rw [h1]; rw [if_pos he]
theorem takeS_2 {s : List UInt8} {a a2 : List UInt16} {n n2 : Nat} {e : Int} (h1 : takeC s = (a, n, 0)) (h2 : takeC (s.drop n) = (a2, n2, e)) (he : e ≠ 0) : takeS s = ⟨[], [], [], 0, e⟩ := by
  unfold takeS; rw [h1]; dsimp only; rw [h2, if_neg (by simp), if_pos he]
theorem takeS_3 {s : List UInt8} {a a2 a3 : List UInt16} {n n2 n3 : Nat} {e : Int} (h1 : takeC s = (a, n, 0)) (h2 : takeC (s.drop n) = (a2, n2, 0)) (h3 : takeC (s.drop (n + n2)) = (a3, n3, e)) (he : e ≠ 0) : takeS s = ⟨[], [], [], 0, e⟩ := by
  unfold takeS; rw [h1]; dsimp only; rw [h2]; dsimp only; rw [h3, if_neg (by simp), if_neg (by simp), if_pos he]
theorem takeS_4 {s : List UInt8} {a a2 a3 : List UInt16} {n n2 n3 : Nat} (h1 : takeC s = (a, n, 0)) (h2 : takeC (s.drop n) = (a2, n2, 0)) (h3 : takeC (s.drop (n + n2)) = (a3, n3, 0)) : takeS s = if maySetsB a a2 a3 then ⟨a, a2, a3, n + n2 + n3, 0⟩ else ⟨[], [], [], 0, 2⟩ := by
  unfold takeS; rw [h1]; dsimp only; rw [h2]; dsimp only; rw [h3, if_neg (by simp), if_neg (by simp), if_neg (by simp)]
theorem takeC_used {s : List UInt8} {a : List UInt16} {n : Nat} (h : takeC s = (a, n, 0)) : n ≤ s.length ∧ a.length ≤ 16 ∧ 1 ≤ n := by
  unfold takeC at h
  split at h
  · injection h with h1 h2; injection h2 with h3 h4; cases h4
  · split at h
    · injection h with h1 h2; injection h2 with h3 h4; cases h4
    · split at h
      · rename_i q1 q2 q3
        injection h with h1 h2; injection h2 with h3 h4; subst h3; subst h1
        refine ⟨by omega, ?_, by omega⟩
        unfold mayC at q3
        rw [Bool.and_eq_true, decide_eq_true_eq] at q3
        exact q3.1
      · injection h with h1 h2; injection h2 with h3 h4; cases h4
def tsT (r : TakenS) : T := .tup [setsV r.a r.b r.c, .int .i64 r.n, .int .i64 r.e]
theorem cats_Take_is {x : T} {s : List UInt8} {a : List UInt16} {n : Nat} {e : Int} (hx : bytesT x = some s) (hl : s.length ≤ 4294967296) (h : takeC s = (a, n, e)) : Pure Try.prog 5 [x] (.tup [cT a, .int .i64 n, .int .i64 e]) := by
  have := cats_Take hx hl; rw [h] at this; exact this
theorem sets_nil : Wk (.agg [.nilsl, .nilsl, .nilsl]) (setsV [] [] []) := Wk.aggL (wk3 (.nil 1) (.nil 1) (.nil 1))

structure STX (s : List UInt8) where
  j : Nat
  i : Nat
  a : List UInt16
  b : List UInt16
  c : List UInt16
  n : Nat
  n1 : Nat
  n2 : Nat
  hj : j ≤ 3
  hn : n ≤ s.length
  h1 : 1 ≤ j → takeC s = (a, n1, 0)
  h2 : 2 ≤ j → takeC (s.drop n1) = (b, n2, 0)
  h3 : 3 ≤ j → ∃ n3, takeC (s.drop (n1 + n2)) = (c, n3, 0) ∧ n = n1 + n2 + n3
  e0 : j = 0 → n = 0
  e1 : j = 1 → n = n1
  e2 : j = 2 → n = n1 + n2
end Go.Proofs.Ytdcnaddjmikmlaa
