/- cats, continued. -/
import Derived.Test.YtfllikkobpfmfaaS4
namespace Go.Proofs.Ytfllikkobpfmfaa
open Go.Ts Go.Sets
attribute [local irreducible] Go.Ts.AW Go.Ts.AOps Go.Ts.AL Go.Ts.AOp Go.Ts.ACalls Go.Ts.DL
theorem drop_tok {k : Nat} {R' : List Nat} {off : Nat → Nat → Prop} : Go.Ts.GStep ⟨[], k :: R', off, none⟩ ⟨[], [k], off, none⟩ :=
  keep_step (σ := ⟨[], k :: R', off, none⟩) (List.Sublist.refl _) (List.singleton_sublist.2 (by simp))
theorem num_Take_is {x : T} {b : List UInt8} {n e : Int} {v : Nat} (hx : bytesT x = some b) (h : takeE b n = (v, e)) : Pure Try.prog 20 [x, .int .i64 n] (.tup [.int .u64 v, .int .i64 e]) := by
  have := num_Take (n := n) hx; rw [h] at this; exact this
theorem rises_adj : ∀ l : List UInt16, risesB l = true ↔ ∀ j, j + 1 < l.length → l.getD j default < l.getD (j + 1) default
  | [] => by simp [risesB]
  | [x] => by simp [risesB]
  | x :: y :: r => by
    rw [risesB, Bool.and_eq_true, decide_eq_true_eq, rises_adj (y :: r)]
    constructor
    · rintro ⟨h1, h2⟩ j hj
      cases j with
      | zero => simpa using h1
      | succ j => have := h2 j (by simp at hj ⊢; omega); simpa using this
    · intro h
      refine ⟨by have := h 0 (by simp); simpa using this, fun j hj => ?_⟩
      have := h (j + 1) (by simp at hj ⊢; omega); simpa using this

structure RiX (a : List UInt16) where
  i : Nat
  hi : 1 ≤ i
  hp : ∀ j, j + 1 < i → j + 1 < a.length → a.getD j default < a.getD (j + 1) default
def mayC (a : List UInt16) : Bool := decide (a.length ≤ 16) && risesB a
def putC (b : List UInt8) (a : List UInt16) : List UInt8 := b ++ putI a.length 1 ++ a.flatMap fun c => putI c.toNat 2
theorem flat2_length (l : List UInt16) : (l.flatMap fun c => putI c.toNat 2).length = 2 * l.length := by
  induction l with
  | nil => rfl
  | cons x l ih =>
    have : (putI x.toNat 2).length = 2 := by rw [putI, if_pos (by omega), be_length]; rfl
    rw [List.flatMap_cons, List.length_append, ih, this, List.length_cons]; omega
theorem flatMap_take {α β : Type} [Inhabited α] (l : List α) (f : α → List β) (i : Nat) (h : i < l.length) : (l.take (i + 1)).flatMap f = (l.take i).flatMap f ++ f (l.getD i default) := by
  rw [take_getD l i h, List.flatMap_append]; simp
structure CPX (a : List UInt16) where
  i : Nat
  k : Nat
  hi : i ≤ a.length
def takeC (b : List UInt8) : List UInt16 × Nat × Int :=
  if b.length < 1 then ([], 0, 3)
  else if b.length < 1 + 2 * beV (b.take 1) then ([], 0, 3)
  else if mayC ((List.range (beV (b.take 1))).map fun i => UInt16.ofNat (beV ((b.drop (1 + 2 * i)).take 2))) then
    ((List.range (beV (b.take 1))).map fun i => UInt16.ofNat (beV ((b.drop (1 + 2 * i)).take 2)), 1 + 2 * beV (b.take 1), 0)
  else ([], 0, 2)
def tcT (r : List UInt16 × Nat × Int) : T := .tup [cT r.1, .int .i64 r.2.1, .int .i64 r.2.2]
theorem takeE1 (b : List UInt8) : takeE b 1 = if b.length < 1 then (0, 3) else (beV (b.take 1), 0) := by
  unfold takeE
  rw [if_neg (by omega)]
  by_cases h : b.length < 1
  · rw [if_pos (by omega), if_pos h]
  · rw [if_neg (by omega), if_neg h]; rfl
theorem beV1 (b : List UInt8) (h : 1 ≤ b.length) : beV (b.take 1) < 256 := by have := beV_lt 1 (b.take 1) (by simp; omega); simpa using this
theorem hT_of (v : Nat) (h : v < 65536) : T.int .u16 (v : Int) = hT (UInt16.ofNat v) := by
  unfold hT; congr 1
  simp [UInt16.toNat_ofNat']; omega
structure TCX (n : Nat) where
  i : Nat
  k : Nat
  hi : i ≤ n
end Go.Proofs.Ytfllikkobpfmfaa
